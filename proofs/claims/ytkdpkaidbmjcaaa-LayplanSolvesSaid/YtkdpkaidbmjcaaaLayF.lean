/- Produced of both; slices.Clone over ints. -/
import Derived.Test.YtkdpkaidbmjcaaaLayE
import Derived.StillTailTactics
namespace Go.Proofs.Ytkdpkaidbmjcaaa
open Go.RowKit
set_option linter.unusedSimpArgs false
set_option linter.unusedVariables false

/-- What Produced returns, of both. -/
def ProdPost (n : Nat) (f : Nat → Int) (m : Nat) (mx : Nat → MixM) (w : World) (e : Ending) (w' : World) : Prop :=
  ∃ v, e = .returned (.tuple #[v, .int .i64 (planErr n f m mx)]) ∧ Owned w' w.heap.size 3 1 v (sizesP n f m mx) (fun s _ => .int .i64 (madeF (cntM mx) f s m)) ∧ Below w.heap.size w w'

theorem ret_pair {v : Value} {b b' : Int} (h2 : b = b') : Ending.returned (.tuple #[v, .int .i64 b]) = .returned (.tuple #[v, .int .i64 b']) := by rw [h2]

set_option maxHeartbeats 1600000 in
theorem rProduced_any (A A2 : Option Addr) (n c2 m c : Nat) (f : Nat → Int) (mx : Nat → MixM) (w : World) (hp : Ints w A2 n f) (hq : Mixes w w.heap.size A m mx) :
    Calls Try.prog 18 #[.slice A2 n c2, .slice A m c] w (ProdPost n f m mx w) := by
  have HQ := Lib.hid hq
  have HP := Lib.hid hp
  clear hq hp
  go_enter Try.func18, Try.ntmps18
  go_wp2_with fail
  refine (check_any A A2 n c2 m c f mx w HP.out HQ.out).mono ?_
  rintro r w1 ⟨rfl, hb1⟩
  by_cases he : planErr n f m mx = 0
  rotate_left
  · have HE0 := Lib.hid (show sizesP n f m mx = 0 by unfold sizesP; rw [if_neg he])
    have hne : (planErr n f m mx != 0) = true := bne_iff_ne.2 he
    clear he
    go_wp2_with fail
    go_ret2
    exact ⟨_, rfl, by rw [HE0.out]; exact Owned.nil _ _ _ _ _, hb1⟩
  obtain ⟨h1, h2, h3⟩ := plan_ok he
  have HE0 := Lib.hid (show sizesP n f m mx = sizesF m mx by unfold sizesP; rw [if_pos he])
  have HG := Lib.hid (good_of h1)
  have HFB := Lib.hid h3
  rw [he]
  have HE := Lib.hid he
  clear he h1 h3
  subst h2
  go_wp2_with fail
  refine (rmade_any A A2 n c2 n c f mx w1 HG.out (Nat.le_refl _) HFB.out (HP.out.later hb1) (HQ.out.later hb1)).mono ?_
  rintro r w2 ⟨v, rfl, hO, hb2⟩
  have qb := below_up hb1 hb2
  go_wp2_with fail
  go_ret2
  exact ⟨_, ret_pair HE.out.symm, by rw [HE0.out]; exact hO.mono hb1.size, qb⟩

/-- What is in 'made' behind i mixes and t counts of mix i. -/
def partF (cnt : Nat → Nat → Int) (f : Nat → Int) (i t s : Nat) : Int := madeF cnt f s i + if s < t then f i * cnt i s else 0

theorem part_next (cnt : Nat → Nat → Int) (f : Nat → Int) (i t s : Nat) (h : s < t) : partF cnt f i t s = madeF cnt f s (i + 1) := by
  unfold partF
  rw [if_pos h]
  rfl

theorem part_zero (cnt : Nat → Nat → Int) (f : Nat → Int) (i s : Nat) : partF cnt f i 0 s = madeF cnt f s i := by
  unfold partF
  rw [if_neg (by omega)]
  omega

theorem part_upd (cnt : Nat → Nat → Int) (f : Nat → Int) (i t s : Nat) : partF cnt f i (t + 1) s = if s = t then partF cnt f i t t + f i * cnt i t else partF cnt f i t s := by
  unfold partF
  by_cases h : s = t
  · subst h
    rw [if_pos rfl, if_pos (by omega), if_neg (by omega)]
    omega
  · rw [if_neg h]
    by_cases h2 : s < t
    · rw [if_pos h2, if_pos (by omega)]
    · rw [if_neg h2, if_neg (by omega)]

set_option maxHeartbeats 3200000 in
theorem Produced_any (A A2 : Option Addr) (n c2 m c : Nat) (f : Nat → Int) (mx : Nat → MixM) (w : World) (hp : Ints w A2 n f) (hq : Mixes w w.heap.size A m mx) :
    Calls Try.prog 13 #[.slice A2 n c2, .slice A m c] w (ProdPost n f m mx w) := by
  have HQ := Lib.hid hq
  have HP := Lib.hid hp
  clear hq hp
  go_enter Try.func13, Try.ntmps13
  go_wp2_with fail
  refine (checkPlan_any A A2 n c2 m c f mx w HP.out HQ.out).mono ?_
  rintro r w1 ⟨rfl, hb1⟩
  by_cases he : planErr n f m mx = 0
  rotate_left
  · have HE0 := Lib.hid (show sizesP n f m mx = 0 by unfold sizesP; rw [if_neg he])
    have hne : (planErr n f m mx != 0) = true := bne_iff_ne.2 he
    clear he
    go_wp2_with fail
    go_ret2
    exact ⟨_, rfl, by rw [HE0.out]; exact Owned.nil _ _ _ _ _, hb1⟩
  obtain ⟨h1, h2, h3⟩ := plan_ok he
  have HE0 := Lib.hid (show sizesP n f m mx = sizesF m mx by unfold sizesP; rw [if_pos he])
  have HG := Lib.hid (good_of h1)
  have HFB := Lib.hid h3
  rw [he, HE0.out]
  have HE := Lib.hid he
  have hm6 := HG.out.m6
  have hs12 := HG.out.s12
  clear he h1 h3
  subst h2
  obtain ⟨S, hS⟩ : ∃ S, S = sizesF n mx := ⟨_, rfl⟩
  rw [← hS] at hs12 ⊢
  have HSS := Lib.hid hS
  clear hS
  have hmk := run_make_row' (P := Try.prog) 22 3 (.int .i64 0) 8 Try.underlying22 int_info rfl .i64 .i64 S (by omega) (by omega)
  go_wp2_with fail
  have hI := ((Owned.made w1 (.int .i64 0) S 3 (by simp only [maxLen]; omega)).mono hb1.size).congr (g := fun s _ => .int .i64 (madeF (cntM mx) f s 0)) (fun _ _ _ _ => rfl)
  have hW0 : Below w.heap.size w (w1.alloc (.cells (madeCells #[.int .i64 0] S) 3)) := hb1.alloc hb1.size _
  have hi0 : w.heap.size ≤ w1.heap.size := hb1.size
  obtain ⟨gi, hgi⟩ : ∃ gi, gi = w1.heap.size := ⟨_, rfl⟩
  rw [← hgi] at hI ⊢
  have hgi0 : w.heap.size ≤ gi := by omega
  generalize hW : w1.alloc _ = W0 at hI hW0 ⊢
  clear hW hb1 hi0 hmk hgi
  go_loopw [26] (fun t wr => ∃ k : Nat, k ≤ n ∧ t = .int .i64 k ∧ Owned wr w.heap.size 3 1 (.slice (some ⟨gi, 0, none⟩) S S) S (fun s _ => .int .i64 (madeF (cntM mx) f s k)) ∧ Below w.heap.size w wr) (fun t _ => n - (intOf t).toNat)
  case atStart => exact ⟨0, Nat.zero_le _, rfl, hI, hW0⟩
  case round =>
    obtain ⟨k, hk, rfl, kO, hwr⟩ := hrel
    clear hI hW0
    have hs1 : w.heap.size ≤ wr.heap.size := hwr.size
    by_cases hlt : k < n
    · obtain ⟨b, o, rfl, hB⟩ := HP.out.addr (by omega)
      obtain ⟨bm, om, rfl, hBm⟩ := HQ.out.1.addr (by omega)
      have f0 := (hwr.cell (p := ⟨_, _, none⟩) hB).trans (HP.out.at1 hlt)
      obtain ⟨e0, e1⟩ := (HQ.out.keep hwr).at (i := k) (by omega)
      obtain ⟨u1, u2⟩ := HFB.out k hlt
      have hlt' : (k : Int) < n := by omega
      have hk0 : (0 : Int) ≤ k := by omega
      go_upto_region 8 with (fail)
      have qN := Blk.new wr 39 #[.slice (mx k).ca (mx k).cn (mx k).cc, .int .i64 (mx k).len]
      have qO := kO.alloc (.cells #[.slice (mx k).ca (mx k).cn (mx k).cc, .int .i64 (mx k).len] 39)
      have qb0 := below_a1 wr (.cells #[.slice (mx k).ca (mx k).cn (mx k).cc, .int .i64 (mx k).len] 39)
      have qb := below_up hwr qb0
      generalize hW : wr.alloc _ = W at qN qb qb0 qO ⊢
      have c1 := qN.cell 0
      simp at c1
      have hcn := HG.out.cn k hlt
      rw [← HSS.out] at hcn
      rw [hcn] at c1
      have HRK := Lib.hid ((HQ.out.2 k hlt).keep qb)
      rw [hcn] at HRK
      clear hW e0 e1 f0 kO hwr qb0 hs1 hcn
      go_wp2_with fail
      clear c1 qN
      have qP := qO.congr (g := fun s _ => .int .i64 (partF (cntM mx) f k 0 s)) (fun s _ _ _ => by rw [part_zero])
      clear qO
      go_loopw [34] (fun t wx => ∃ i : Nat, i ≤ S ∧ t = .int .i64 i ∧ Owned wx w.heap.size 3 1 (.slice (some ⟨gi, 0, none⟩) S S) S (fun s _ => .int .i64 (partF (cntM mx) f k i s)) ∧ Below w.heap.size w wx) (fun t _ => S - (intOf t).toNat)
      case atStart => exact ⟨0, Nat.zero_le _, rfl, qP, qb⟩
      case round =>
        clear qP qb HRK
        rename_i wx _
        obtain ⟨i, hi, rfl, kO, hwx⟩ := hrel
        by_cases hli : i < S
        · have f0 := (hwx.cell (p := ⟨_, _, none⟩) hB).trans (HP.out.at1 hlt)
          have hr := (HQ.out.2 k hlt).keep hwx
          obtain ⟨bc, oc, hca, hBc⟩ := hr.addr (by rw [HG.out.cn k hlt, ← HSS.out]; omega)
          rw [hca] at hr ⊢
          have f1 := hr.at1 (i := i) (by rw [HG.out.cn k hlt, ← HSS.out]; omega)
          obtain ⟨hgb, hgl, hcell, hfz⟩ := kO.cells1
          have a0 := hcell i hli
          have z0 := hfz i
          obtain ⟨l1, l2⟩ := HG.out.cnt k i (by omega) (by rw [← HSS.out]; exact hli)
          obtain ⟨v1, v2⟩ := mul_bd u1 u2 l1 l2
          obtain ⟨b1, b2⟩ := made_bd HG.out HFB.out (s := i) (by rw [← HSS.out]; exact hli) k hk (by omega)
          have HX := Lib.hid (show partF (cntM mx) f k i i = madeF (cntM mx) f i k by unfold partF; rw [if_neg (by omega)]; omega)
          rw [HX.out] at a0
          have HS := Lib.hid (part_upd (cntM mx) f k i)
          clear hr hca hcell hfz
          generalize madeF (cntM mx) f i k = T at *
          have wz0 : IntKind.i64.wrap (f k * (mx k).cnt i) = f k * (mx k).cnt i := wrap_cast v1 (by omega)
          have wz1 : IntKind.i64.wrap (T + f k * (mx k).cnt i) = T + f k * (mx k).cnt i := wrap_cast (by omega) (by omega)
          have hli' : (i : Int) < S := by omega
          have hi0 : (0 : Int) ≤ i := by omega
          go_upto_region 11 with (fail)
          go_still_tail 12, (by kernel_rfl)
          go_upto_region 12 with (fail)
          clear a0 z0 f0 f1 wz0 wz1
          have tO := ((kO.put1 (k := i) (.int .i64 (T + f k * (mx k).cnt i))).drew).congr (g := fun s _ => .int .i64 (partF (cntM mx) f k (i + 1) s)) (fun s l hs hl => by
            rw [HS.out]
            unfold upd
            by_cases h1 : s = i
            · rw [if_pos ⟨h1, by omega⟩, if_pos h1, HX.out]
            · rw [if_neg (fun h => h1 h.1), if_neg h1])
          have tb := (hwx.setCell (p := ⟨gi, i, none⟩) hgb (.int .i64 (T + f k * (mx k).cnt i))).drew
          generalize hW : World.drew _ = W5 at tO tb ⊢
          clear hW kO hwx
          go_wp2_with fail
          go_roundw
          case rel => exact ⟨i + 1, by omega, by go_num, tO, tb⟩
          case measure => simp [intOf]; omega
        · obtain rfl : i = S := by omega
          have tO := kO.congr (g := fun s _ => .int .i64 (madeF (cntM mx) f s (k + 1))) (fun s l hs hl => by rw [part_next _ _ _ _ _ hs])
          clear kO
          go_wp2_with fail
          go_roundw
          case rel => exact ⟨k + 1, by omega, by go_num, tO, hwx⟩
          case measure => simp [intOf]; omega
    · obtain rfl : k = n := by omega
      go_wp2_with fail
      go_ret2
      exact ⟨_, ret_pair HE.out.symm, by rw [HE0.out, ← HSS.out]; exact kO, hwr⟩

set_option maxHeartbeats 400000 in
theorem cloneInt_any (A : Option Addr) (n c : Nat) (f : Nat → Nat → Value) (w : World) (hn : n ≤ 1000) (hp : Row w w.heap.size 1 A n f) (h1 : Plain 1 n f) :
    Calls Try.prog 40 #[.slice A n c] w fun e w' => ∃ v, e = .returned v ∧ Owned w' w.heap.size 3 1 v n f ∧ Below w.heap.size w w' := by
  obtain ⟨i0, hi, hz0, hz1, hz2⟩ := info_parts int_info
  rcases A with _ | ad
  · obtain rfl : n = 0 := by
      rcases Nat.eq_zero_or_pos n with h | h
      · exact h
      · obtain ⟨_, _, h', _⟩ := hp h; cases h'
    have hq := fun w => eql_nil (P := Try.prog) Try.underlying22 none 0 c w
    go_enter Try.func40, Try.ntmps40
    go_wp2_with fail
    go_ret
    exact ⟨_, rfl, Owned.nil _ _ _ _ _, Below.refl _ _⟩
  · have hq := fun w => eql_nil (P := Try.prog) Try.underlying22 (some ad) n c w
    have HP := Lib.hid (hp.later (below_a1 w (.cells #[] 3)))
    have H1 := Lib.hid h1
    clear hp h1
    go_enter Try.func40, Try.ntmps40
    go_wp2_with (at_builtin; refine wpList_append_row _ rfl _ _ _ rfl w.heap.size 3 i0 _ 1 8 Try.underlying22 hi hz0 hz1 hz2 rfl (by omega) _ 0 f rfl (Owned.lit w #[] 0 3 1 f (by simp only [maxLen]; omega) (by simp [cellsOf])) _ _ n c f rfl HP.out H1.out (by simp only [maxLen]; omega) (by omega) (by simp) ?_; intro v' w1 hown hgr hbk)
    go_ret
    refine ⟨v', rfl, ?_, (below_a1 w _).grown hgr (by simp) (fun k hk => by have : w.heap.size = k := Option.some.inj hk; omega)⟩
    rw [Nat.zero_add] at hown
    exact hown.congr (fun i j _ _ => by simp [glue])

end Go.Proofs.Ytkdpkaidbmjcaaa
