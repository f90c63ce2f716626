/- RecutGreedy: the plain law and the walk. -/
import Derived.Test.YtmjfalabjlbdeaaRecK
namespace Go.Proofs.Ytmjfalabjlbdeaa
open Go.RowKit
set_option linter.unusedSimpArgs false
set_option linter.unusedVariables false

/-- From need i on, a rest is as it was, or it was usable and its beginning rose. -/
theorem left_rise (n : Nat) (need : Nat → Need) (rest : Nat → Rest) (i d j : Nat) :
    (leftF n need rest (i + d) j).roll = (leftF n need rest i j).roll ∧ (leftF n need rest (i + d) j).lot = (leftF n need rest i j).lot ∧ (leftF n need rest (i + d) j).til = (leftF n need rest i j).til ∧
    ((leftF n need rest (i + d) j).frm = (leftF n need rest i j).frm ∨ (0 ≤ (leftF n need rest i j).frm ∧ (leftF n need rest i j).frm ≤ (leftF n need rest (i + d) j).frm ∧ (leftF n need rest (i + d) j).frm ≤ (leftF n need rest i j).til ∧ (leftF n need rest i j).til ≤ 1048576)) := by
  induction d with
  | zero => exact ⟨rfl, rfl, rfl, .inl rfl⟩
  | succ d ih =>
    obtain ⟨h1, h2, h3, h4⟩ := ih
    have hs : leftF n need rest (i + (d + 1)) j = cutF (leftF n need rest (i + d)) (pickF n (leftF n need rest (i + d)) (need (i + d))) (need (i + d)).len j := rfl
    rw [hs]
    unfold cutF
    split
    · rename_i hj
      rcases pick_spec n (leftF n need rest (i + d)) (need (i + d)) with ⟨hp, _⟩ | ⟨k, hk, hp, hserv, _⟩
      · rw [hp] at hj; omega
      · rw [hp] at hj
        have hjk : j = k := by omega
        subst hjk
        have hb := serves_bd (d1 := (need (i + d)).lot) (d2 := (need (i + d)).len) hserv
        refine ⟨h1, h2, h3, .inr ?_⟩
        simp only []
        omega
    · exact ⟨h1, h2, h3, h4⟩

theorem greedy_law {n m : Nat} {need : Nat → Need} {rest : Nat → Rest} {k j : Nat} (hk : k < m) (hj : j < n) (hg : gotF n need rest k < 0) (h1 : 1 ≤ (need k).len) (h2 : (need k).len ≤ 1048576)
    (hu : usableF (leftF n need rest m j) = true) (hl : (leftF n need rest m j).lot = (need k).lot) : (leftF n need rest m j).til - (leftF n need rest m j).frm < (need k).len := by
  obtain ⟨d, rfl⟩ : ∃ d, m = k + d := ⟨m - k, by omega⟩
  obtain ⟨r1, r2, r3, r4⟩ := left_rise n need rest k d j
  unfold usableF at hu
  rw [decide_eq_true_eq] at hu
  rcases pick_spec n (leftF n need rest k) (need k) with ⟨_, hall⟩ | ⟨i, hi, hp, _, _⟩
  · have := hall j hj
    unfold servesF at this
    rw [decide_eq_false_iff_not] at this
    omega
  · unfold gotF at hg
    omega

set_option maxHeartbeats 1600000 in
theorem greedy_any (A A2 : Option Addr) (m c n c2 : Nat) (need : Nat → Need) (rest : Nat → Rest) (w : World)
    (hp : Row w w.heap.size 2 A m (fun i => (need i).c)) (hq : Row w w.heap.size 4 A2 n (fun i => (rest i).c)) :
    Calls Try.prog 8 #[.slice A m c, .slice A2 n c2] w fun e w' => e = .returned (.bool true) ∧ Below w.heap.size w w' := by
  by_cases hm : 60 < m
  · have hm' : (60 : Int) < m := by omega
    go_enter Try.func8, Try.ntmps8
    go_wp2_with fail
    refine (example_any _).mono ?_
    rintro e w1 ⟨rfl, hb1⟩
    go_wp2_with fail
    go_ret
    exact ⟨rfl, hb1⟩
  have hm' : ¬ (60 : Int) < m := by omega
  by_cases hn : 30 < n
  · have hn' : (30 : Int) < n := by omega
    go_enter Try.func8, Try.ntmps8
    go_wp2_with fail
    refine (example_any _).mono ?_
    rintro e w1 ⟨rfl, hb1⟩
    go_wp2_with fail
    go_ret
    exact ⟨rfl, hb1⟩
  have hn' : ¬ (30 : Int) < n := by omega
  have HP := Lib.hid hp
  have HQ := Lib.hid hq
  clear hp hq
  have hbm : ((m : Int) != (m : Int)) = false := by simp
  go_enter Try.func8, Try.ntmps8
  go_wp2_with fail
  refine (assign_any _ _ m _ n _ need rest _ (by omega) (by omega) HP.out HQ.out).mono ?_
  rintro e w2 ⟨vL, vG, rfl, hL, hG, hb⟩
  have hL := hL.form
  have hG := hG.form
  obtain ⟨AL, cL, rfl, hncL, hcL, rL⟩ := hL
  obtain ⟨AG, cG, rfl, hncG, hcG, rG⟩ := hG
  have HL := Lib.hid rL
  have HG := Lib.hid rG
  have HN := Lib.hid (HP.out.later hb)
  have hlaw : Hid (∀ k j, k < m → j < n → gotF n need rest k < 0 → 1 ≤ (need k).len → (need k).len ≤ 1048576 → usableF (leftF n need rest m j) = true → (leftF n need rest m j).lot = (need k).lot → (leftF n need rest m j).til - (leftF n need rest m j).frm < (need k).len) :=
    Lib.hid (fun k j a b c d e f g => greedy_law a b c d e f g)
  clear rL rG HP HQ
  generalize leftF n need rest m = L at *
  generalize gotF n need rest = G at *
  go_wp2_with fail
  go_loopw [33] (fun t wr => ∃ k : Nat, k ≤ m ∧ t = .int .i64 k ∧ Below w2.heap.size w2 wr) (fun t _ => m - (intOf t).toNat)
  case atStart => exact ⟨0, Nat.zero_le _, rfl, Below.refl _ _⟩
  case round =>
    obtain ⟨k, hk, rfl, hwr⟩ := hrel
    have hs1 : w2.heap.size ≤ wr.heap.size := hwr.size
    by_cases hlt : k < m
    · obtain ⟨b, off, rfl, hB⟩ := HN.out.addr (by omega)
      obtain ⟨e0, e1⟩ := HN.out.at2 hlt
      simp only [Need.c] at e0 e1
      have f0 := (hwr.cell (p := ⟨_, _, none⟩) hB).trans e0
      have f1 := (hwr.cell (p := ⟨_, _, none⟩) hB).trans e1
      clear e0 e1
      have hlt' : (k : Int) < m := by omega
      go_upto_region 9 with (fail)
      have qN := Blk.new wr 47 #[.int .i64 (need k).lot, .int .i64 (need k).len]
      have qb := hwr.alloc hs1 (.cells #[.int .i64 (need k).lot, .int .i64 (need k).len] 47)
      generalize hW : wr.alloc _ = W at qN qb ⊢
      clear hW f0 f1
      have c1 := qN.cell 1
      simp at c1
      obtain ⟨bg, og, rfl, hBg⟩ := HG.out.addr (by omega)
      have g0 := HG.out.at1 hlt
      have g1 := (qb.cell (p := ⟨_, _, none⟩) hBg).trans g0
      clear g0
      by_cases hg : 0 ≤ G k
      · go_wp2_with fail
        go_roundw
        case rel => exact ⟨k + 1, by omega, by go_num, qb⟩
        case measure => simp [intOf]; omega
      have HGk := Lib.hid hg
      have hg' : G k < 0 := by omega
      by_cases h1 : (need k).len < 1
      · go_wp2_with fail
        go_roundw
        case rel => exact ⟨k + 1, by omega, by go_num, qb⟩
        case measure => simp [intOf]; omega
      by_cases h2 : 1048576 < (need k).len
      · go_wp2_with fail
        go_roundw
        case rel => exact ⟨k + 1, by omega, by go_num, qb⟩
        case measure => simp [intOf]; omega
      have hlawk := Lib.hid (fun j hj => hlaw.out k j hlt hj hg' (by omega) (by omega))
      go_wp2_with fail
      clear c1 g1
      go_loopw [55] (fun t wr => ∃ j : Nat, j ≤ n ∧ t = .int .i64 j ∧ Below W.heap.size W wr) (fun t _ => n - (intOf t).toNat)
      case atStart => exact ⟨0, Nat.zero_le _, rfl, Below.refl _ _⟩
      case round =>
        obtain ⟨j, hj, rfl, hws⟩ := hrel
        have hs2 : W.heap.size ≤ wr.heap.size := hws.size
        have hs3 : w2.heap.size ≤ W.heap.size := qb.size
        by_cases hlj : j < n
        · obtain ⟨bl, ol, rfl, hBl⟩ := HL.out.addr (by omega)
          obtain ⟨e0, e1, e2, e3⟩ := HL.out.at4 hlj
          simp only [Rest.c] at e0 e1 e2 e3
          have f0 := ((below_up qb hws).cell (p := ⟨_, _, none⟩) hBl).trans e0
          have f1 := ((below_up qb hws).cell (p := ⟨_, _, none⟩) hBl).trans e1
          have f2 := ((below_up qb hws).cell (p := ⟨_, _, none⟩) hBl).trans e2
          have f3 := ((below_up qb hws).cell (p := ⟨_, _, none⟩) hBl).trans e3
          clear e0 e1 e2 e3
          have hlj' : (j : Int) < n := by omega
          go_upto_region 13 with (fail)
          have rN := (qN.later hws).alloc (.cells #[.int .i64 (L j).roll, .int .i64 (L j).lot, .int .i64 (L j).frm, .int .i64 (L j).til] 49)
          have rR := Blk.new wr 49 #[.int .i64 (L j).roll, .int .i64 (L j).lot, .int .i64 (L j).frm, .int .i64 (L j).til]
          have rb := hws.alloc hs2 (.cells #[.int .i64 (L j).roll, .int .i64 (L j).lot, .int .i64 (L j).frm, .int .i64 (L j).til] 49)
          generalize hW : wr.alloc _ = W3 at rN rR rb ⊢
          clear hW f0 f1 f2 f3
          have c0 := rR.cell 0
          have c1 := rR.cell 1
          have c2 := rR.cell 2
          have c3 := rR.cell 3
          simp at c0 c1 c2 c3
          have hL4 := hlawk.out j hlj
          have HL4 := Lib.hid hL4
          clear hL4
          cases hv : usableF ⟨(L j).roll, (L j).lot, (L j).frm, (L j).til⟩
          · go_wp2_with ((go_at_call 25; refine (usable_any _ _ _ _ _).mono ?_; rintro e w4 ⟨rfl, hb4⟩; rw [hv]))
            go_roundw
            case rel => exact ⟨j + 1, by omega, by go_num, below_up rb hb4⟩
            case measure => simp [intOf]; omega
          have hus : 0 ≤ (L j).frm ∧ (L j).frm ≤ (L j).til ∧ (L j).til ≤ 1048576 := by
            unfold usableF at hv
            exact of_decide_eq_true hv
          obtain ⟨u1, u2, u3⟩ := hus
          by_cases hlot : (L j).lot = (need k).lot
          rotate_left
          · have hbl : ((L j).lot == (need k).lot) = false := beq_eq_false_iff_ne.2 hlot
            go_wp2_with ((go_at_call 25; refine (usable_any _ _ _ _ _).mono ?_; rintro e w4 ⟨rfl, hb4⟩; rw [hv]; have d1 := (rR.later hb4).cell 1; have d4 := (rN.later hb4).cell 0; simp at d1 d4))
            go_roundw
            case rel => exact ⟨j + 1, by omega, by go_num, below_up rb hb4⟩
            case measure => simp [intOf]; omega
          have hbl : ((L j).lot == (need k).lot) = true := beq_iff_eq.2 hlot
          have hfin := HL4.out hv hlot
          clear hlot
          have r1 : IntKind.i64.wrap ((L j).til - (L j).frm) = (L j).til - (L j).frm := wrap_cast (by omega) (by omega)
          go_wp2_with ((go_at_call 25; refine (usable_any _ _ _ _ _).mono ?_; rintro e w4 ⟨rfl, hb4⟩; rw [hv]; have d1 := (rR.later hb4).cell 1; have d2 := (rR.later hb4).cell 2; have d3 := (rR.later hb4).cell 3; have d4 := (rN.later hb4).cell 0; have d5 := (rN.later hb4).cell 1; simp at d1 d2 d3 d4 d5))
          go_roundw
          case rel => exact ⟨j + 1, by omega, by go_num, below_up rb hb4⟩
          case measure => simp [intOf]; omega
        · go_wp2_with fail
          go_roundw
          case rel => exact ⟨k + 1, by omega, by go_num, below_up qb hws⟩
          case measure => simp [intOf]; omega
    · go_wp2_with fail
      refine (example_any _).mono ?_
      rintro e w3 ⟨rfl, hb3⟩
      go_wp2_with fail
      go_ret
      exact ⟨rfl, below_up hb (below_up hwr hb3)⟩

end Go.Proofs.Ytmjfalabjlbdeaa
