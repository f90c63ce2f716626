/- The reference's first. -/
import Derived.Test.YtmjfalabjlbdeaaRecC
import Derived.Test.YtmjfalabjlbdeaaRecE
namespace Go.Proofs.Ytmjfalabjlbdeaa
open Go.RowKit
set_option linter.unusedSimpArgs false
set_option linter.unusedVariables false

theorem serves_no1 {r : Rest} {d : Need} (h : usableF r = false) : servesF r d = false := by
  unfold servesF; unfold usableF at h
  rw [decide_eq_false_iff_not] at *
  omega
theorem serves_no2 {r : Rest} {d : Need} (h : ¬ r.lot = d.lot) : servesF r d = false := by
  unfold servesF
  rw [decide_eq_false_iff_not]
  omega
theorem serves_no3 {r : Rest} {d : Need} (h : r.til - r.frm < d.len) : servesF r d = false := by
  unfold servesF
  rw [decide_eq_false_iff_not]
  omega
theorem serves_no4 {r : Rest} {d : Need} (h : d.len < 1 ∨ 1048576 < d.len) : servesF r d = false := by
  unfold servesF
  rw [decide_eq_false_iff_not]
  omega
theorem serves_yes {r : Rest} {d : Need} (h1 : usableF r = true) (h2 : r.lot = d.lot) (h3 : d.len ≤ r.til - r.frm) (h4 : 1 ≤ d.len) (h5 : d.len ≤ 1048576) : servesF r d = true := by
  unfold servesF; unfold usableF at h1
  rw [decide_eq_true_eq] at *
  omega

set_option maxRecDepth 100000 in
set_option maxHeartbeats 1600000 in
theorem first_any (A : Option Addr) (n c : Nat) (rs : Nat → Rest) (d1 d2 : Int) (w : World) (hn : n ≤ 1000)
    (hp : Row w w.heap.size 4 A n (fun i => (rs i).c)) :
    Calls Try.prog 32 #[.agg #[.int .i64 d1, .int .i64 d2], .slice A n c] w
      fun e w' => e = .returned (.int .i64 (pickF n rs ⟨d1, d2⟩)) ∧ Below w.heap.size w w' := by
  have HP := Lib.hid (hp.later (below_a1 w (.cells #[.int .i64 d1, .int .i64 d2] 47)))
  clear hp
  by_cases h1 : d2 < 1
  · have HN := Lib.hid (show pickF n rs ⟨d1, d2⟩ = -1 from firstF_none _ n (fun j hj => serves_no4 (.inl h1)))
    go_enter Try.func32, Try.ntmps32
    go_wp2_with fail
    go_ret
    exact ⟨ret_int HN.out.symm, below_a1 _ _⟩
  by_cases h2 : 1048576 < d2
  · have HN := Lib.hid (show pickF n rs ⟨d1, d2⟩ = -1 from firstF_none _ n (fun j hj => serves_no4 (.inr h2)))
    go_enter Try.func32, Try.ntmps32
    go_wp2_with fail
    go_ret
    exact ⟨ret_int HN.out.symm, below_a1 _ _⟩
  go_enter Try.func32, Try.ntmps32
  go_wp2_with fail
  have qD := Blk.new w 47 #[.int .i64 d1, .int .i64 d2]
  have hb := below_a1 w (.cells #[.int .i64 d1, .int .i64 d2] 47)
  obtain ⟨g, hg⟩ : ∃ g, g = w.heap.size := ⟨_, rfl⟩
  rw [← hg] at qD ⊢
  rw [hg]
  generalize hW : w.alloc _ = W at qD hb HP ⊢
  rw [← hg]
  clear hW
  have c0 := qD.cell 0
  have c1 := qD.cell 1
  have hgW := qD.lt
  simp at c0 c1
  have HB := Lib.hid hb
  clear hb hg qD
  go_loopw [5] (fun t wr => ∃ k : Nat, k ≤ n ∧ t = .int .i64 k ∧ Hid (∀ j, j < k → servesF (rs j) ⟨d1, d2⟩ = false) ∧ Below W.heap.size W wr) (fun t _ => n - (intOf t).toNat)
  case atStart => exact ⟨0, Nat.zero_le _, rfl, Lib.hid (fun j hj => absurd hj (by omega)), Below.refl _ _⟩
  case round =>
    obtain ⟨k, hk, rfl, hno, hwr⟩ := hrel
    have hs1 : W.heap.size ≤ wr.heap.size := hwr.size
    by_cases hlt : k < n
    · obtain ⟨b, off, rfl, hB⟩ := HP.out.addr (by omega)
      obtain ⟨e0, e1, e2, e3⟩ := HP.out.at4 hlt
      simp only [Rest.c] at e0 e1 e2 e3
      have x0 := fun z : Ext W.heap.size wr => z.cell (b := b) (by omega) ((hwr.cell (p := ⟨_, _, none⟩) (by simp only []; omega)).trans e0)
      have x1 := fun z : Ext W.heap.size wr => z.cell (b := b) (by omega) ((hwr.cell (p := ⟨_, _, none⟩) (by simp only []; omega)).trans e1)
      have x2 := fun z : Ext W.heap.size wr => z.cell (b := b) (by omega) ((hwr.cell (p := ⟨_, _, none⟩) (by simp only []; omega)).trans e2)
      have x3 := fun z : Ext W.heap.size wr => z.cell (b := b) (by omega) ((hwr.cell (p := ⟨_, _, none⟩) (by simp only []; omega)).trans e3)
      have y0 := fun z : Ext W.heap.size wr => z.cell (b := g) (by omega) ((hwr.cell (p := ⟨_, _, none⟩) (by simp only []; omega)).trans c0)
      have y1 := fun z : Ext W.heap.size wr => z.cell (b := g) (by omega) ((hwr.cell (p := ⟨_, _, none⟩) (by simp only []; omega)).trans c1)
      clear e0 e1 e2 e3
      have hlt' : (k : Int) < n := by omega
      have hk0 : (0 : Int) ≤ k := by omega
      cases hv : usableF ⟨(rs k).roll, (rs k).lot, (rs k).frm, (rs k).til⟩
      · have HV := Lib.hid hv
        go_upto_region 6 with (fail)
        refine region_ext W.heap.size (by kernel_rfl) (by kernel_rfl) ?_
        repeat (go_big_quiet_step (first | (go_at_call 25; exact calls_ext_bool hs1 (usable_any _ _ _ _ _) HV.out)))
        refine wpQuiet_nil ?_
        rintro _ ⟨z, rfl⟩
        obtain ⟨wq, hq⟩ := z
        dsimp only
        clear x0 x1 x2 x3 y0 y1
        go_wp2_with fail
        go_roundw
        case rel => exact ⟨k + 1, by omega, by go_num, Lib.hid (fun j hj => by rcases Nat.lt_succ_iff_lt_or_eq.1 hj with h' | rfl; exact hno.out j h'; exact serves_no1 HV.out), hwr.trans hq⟩
        case measure => simp [intOf]; omega
      have HV := Lib.hid hv
      have hus : 0 ≤ (rs k).frm ∧ (rs k).frm ≤ (rs k).til ∧ (rs k).til ≤ 1048576 := of_decide_eq_true hv
      obtain ⟨u1, u2, u3⟩ := hus
      clear hv
      by_cases hlot : (rs k).lot = d1
      rotate_left
      · have hbl : ((rs k).lot == d1) = false := beq_eq_false_iff_ne.2 hlot
        have HLo := Lib.hid hlot
        clear hlot
        go_upto_region 6 with (fail)
        refine region_ext W.heap.size (by kernel_rfl) (by kernel_rfl) ?_
        repeat (go_big_quiet_step (first | (go_at_call 25; exact calls_ext_bool hs1 (usable_any _ _ _ _ _) HV.out)))
        refine wpQuiet_nil ?_
        rintro _ ⟨z, rfl⟩
        obtain ⟨wq, hq⟩ := z
        dsimp only
        clear x0 x1 x2 x3 y0 y1
        go_wp2_with fail
        go_roundw
        case rel => exact ⟨k + 1, by omega, by go_num, Lib.hid (fun j hj => by rcases Nat.lt_succ_iff_lt_or_eq.1 hj with h' | rfl; exact hno.out j h'; exact serves_no2 HLo.out), hwr.trans hq⟩
        case measure => simp [intOf]; omega
      have hbl : ((rs k).lot == d1) = true := beq_iff_eq.2 hlot
      have HLo := Lib.hid hlot
      clear hlot
      have r1 : IntKind.i64.wrap ((rs k).til - (rs k).frm) = (rs k).til - (rs k).frm := wrap_cast (by omega) (by omega)
      by_cases hle : d2 ≤ (rs k).til - (rs k).frm
      · have HLe := Lib.hid hle
        go_upto_region 6 with (fail)
        refine region_ext W.heap.size (by kernel_rfl) (by kernel_rfl) ?_
        repeat (go_big_quiet_step (first | (go_at_call 25; exact calls_ext_bool hs1 (usable_any _ _ _ _ _) HV.out)))
        refine wpQuiet_nil ?_
        rintro _ ⟨z, rfl⟩
        obtain ⟨wq, hq⟩ := z
        dsimp only
        clear x0 x1 x2 x3 y0 y1
        go_wp2_with fail
        go_ret
        exact ⟨ret_int (firstF_at _ n k hlt hno.out (serves_yes HV.out HLo.out HLe.out (by omega) (by omega))).symm, below_up HB.out (hwr.trans hq)⟩
      · have HLe := Lib.hid hle
        go_upto_region 6 with (fail)
        refine region_ext W.heap.size (by kernel_rfl) (by kernel_rfl) ?_
        repeat (go_big_quiet_step (first | (go_at_call 25; exact calls_ext_bool hs1 (usable_any _ _ _ _ _) HV.out)))
        refine wpQuiet_nil ?_
        rintro _ ⟨z, rfl⟩
        obtain ⟨wq, hq⟩ := z
        dsimp only
        clear x0 x1 x2 x3 y0 y1
        go_wp2_with fail
        go_roundw
        case rel => exact ⟨k + 1, by omega, by go_num, Lib.hid (fun j hj => by rcases Nat.lt_succ_iff_lt_or_eq.1 hj with h' | rfl; exact hno.out j h'; exact serves_no3 (by have := HLe.out; simp only []; omega)), hwr.trans hq⟩
        case measure => simp [intOf]; omega
    · go_wp2_with fail
      go_ret
      exact ⟨ret_int (firstF_none _ n (fun j hj => hno.out j (by omega))).symm, below_up HB.out hwr⟩

end Go.Proofs.Ytmjfalabjlbdeaa
