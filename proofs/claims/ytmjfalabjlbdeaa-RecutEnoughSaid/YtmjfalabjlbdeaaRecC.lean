/- recut.Assign. -/
import Derived.Test.YtmjfalabjlbdeaaRecB
import Derived.StillTailTactics
namespace Go.Proofs.Ytmjfalabjlbdeaa
open Go.RowKit
set_option linter.unusedSimpArgs false
set_option linter.unusedVariables false

/-- What both Assigns leave: the remaining rests and the indices, in new memory. -/
def AssignPost (w : World) (m n : Nat) (need : Nat → Need) (rest : Nat → Rest) (e : Ending) (w' : World) : Prop :=
  ∃ v u, e = .returned (.tuple #[v, u]) ∧ Owned w' w.heap.size 49 4 v n (fun i => (leftF n need rest m i).c) ∧ Owned w' w.heap.size 3 1 u m (fun i _ => .int .i64 (gotF n need rest i)) ∧ Below w.heap.size w w'

theorem plain_rest (rs : Nat → Rest) (n : Nat) : Plain 4 n (fun i => (rs i).c) := by
  intro i j hi hj
  simp only []
  unfold Rest.c
  split <;> rfl

theorem serves_bd {r : Rest} {d1 d2 : Int} (h : servesF r ⟨d1, d2⟩ = true) : 1 ≤ d2 ∧ d2 ≤ 1048576 ∧ 0 ≤ r.frm ∧ r.frm ≤ r.til ∧ r.til ≤ 1048576 ∧ r.frm + d2 ≤ r.til := by
  unfold servesF at h
  rw [decide_eq_true_eq] at h
  simp only [] at h
  omega

theorem left_none {n k : Nat} {need : Nat → Need} {rest : Nat → Rest} (h : pickF n (leftF n need rest k) ⟨(need k).lot, (need k).len⟩ = -1) : leftF n need rest (k + 1) = leftF n need rest k := by
  show cutF (leftF n need rest k) (pickF n (leftF n need rest k) (need k)) (need k).len = _
  rw [show pickF n (leftF n need rest k) (need k) = -1 from h, cut_none]

theorem left_some {n k j : Nat} {need : Nat → Need} {rest : Nat → Rest} (h : pickF n (leftF n need rest k) ⟨(need k).lot, (need k).len⟩ = (j : Int)) (i l : Nat) (hl : l < 4) :
    upd (fun i => (leftF n need rest k i).c) j 2 (.int .i64 ((leftF n need rest k j).frm + (need k).len)) i l = (leftF n need rest (k + 1) i).c l := by
  show _ = (cutF (leftF n need rest k) (pickF n (leftF n need rest k) (need k)) (need k).len i).c l
  rw [show pickF n (leftF n need rest k) (need k) = (j : Int) from h]
  unfold upd cutF
  by_cases hij : i = j
  · subst hij
    match l, hl with
    | 0, _ => simp [Rest.c]
    | 1, _ => simp [Rest.c]
    | 2, _ => simp [Rest.c]
    | 3, _ => simp [Rest.c]
  · rw [if_neg (fun h => hij h.1), if_neg (by omega)]

theorem got_upd {n k : Nat} {need : Nat → Need} {rest : Nat → Rest} {x : Int} (h : pickF n (leftF n need rest k) ⟨(need k).lot, (need k).len⟩ = x) (i l : Nat) (hl : l < 1) :
    upd (fun i _ => .int .i64 (if i < k then gotF n need rest i else 0)) k 0 (.int .i64 x) i l = .int .i64 (if i < k + 1 then gotF n need rest i else 0) := by
  unfold upd
  by_cases hi : i = k
  · subst hi
    rw [if_pos ⟨rfl, by omega⟩, if_pos (by omega), ← h]
    rfl
  · rw [if_neg (fun h' => hi h'.1)]
    by_cases h1 : i < k
    · simp only [if_pos h1, if_pos (show i < k + 1 by omega)]
    · simp only [if_neg h1, if_neg (show ¬ i < k + 1 by omega)]

set_option maxHeartbeats 1600000 in
theorem assign_any (A A2 : Option Addr) (m c n c2 : Nat) (need : Nat → Need) (rest : Nat → Rest) (w : World) (hm : m ≤ 1000) (hn : n ≤ 1000)
    (hp : Row w w.heap.size 2 A m (fun i => (need i).c)) (hq : Row w w.heap.size 4 A2 n (fun i => (rest i).c)) :
    Calls Try.prog 17 #[.slice A m c, .slice A2 n c2] w (AssignPost w m n need rest) := by
  have HP := Lib.hid hp
  have HQ := Lib.hid hq
  clear hp hq
  have hmk := run_make_row' (P := Try.prog) 27 3 (.int .i64 0) 8 Try.underlying27 cloneInt_any_info rfl .i64 .i64 m (by omega) (by omega)
  go_enter Try.func17, Try.ntmps17
  go_wp2_with fail
  refine (cloneRest_any A2 n c2 _ _ hn HQ.out (plain_rest rest n)).mono ?_
  rintro e w1 ⟨vL, rfl, hL, hb1⟩
  obtain ⟨AL, cL, rfl, hncL, hcL, hrow0⟩ := hL.form
  clear hrow0
  go_wp2_with fail
  have hI := (Owned.made w1 (.int .i64 0) m 3 (by simp only [maxLen]; omega)).mono hb1.size
  have hL0 := hL.alloc (.cells (madeCells #[.int .i64 0] m) 3)
  have hW0 : Below w.heap.size w (w1.alloc (.cells (madeCells #[.int .i64 0] m) 3)) := hb1.alloc hb1.size _
  have hsep := Lib.hid hL.lt
  have hi0 : w.heap.size ≤ w1.heap.size := hb1.size
  obtain ⟨gi, hgi⟩ : ∃ gi, gi = w1.heap.size := ⟨_, rfl⟩
  rw [← hgi] at hI ⊢
  have hsep' : ∀ k, (Value.slice AL n cL).ownBlock = some k → k < gi := fun k hk => by have := (hsep.out k hk).2; omega
  have hgi0 : w.heap.size ≤ gi := by omega
  generalize hW : w1.alloc _ = W0 at hI hL0 hW0 ⊢
  clear hW hL hb1 hsep hi0 hmk hcL hgi
  have HS := Lib.hid hsep'
  clear hsep'
  go_loopw [18] (fun t wr => ∃ k : Nat, k ≤ m ∧ t = .int .i64 k ∧ Owned wr w.heap.size 49 4 (.slice AL n cL) n (fun i => (leftF n need rest k i).c) ∧
      Owned wr w.heap.size 3 1 (.slice (some ⟨gi, 0, none⟩) m m) m (fun i _ => .int .i64 (if i < k then gotF n need rest i else 0)) ∧ Below w.heap.size w wr) (fun t _ => m - (intOf t).toNat)
  case atStart => exact ⟨0, Nat.zero_le _, rfl, hL0, hI, hW0⟩
  case round =>
    obtain ⟨k, hk, rfl, kL, kI, hwr⟩ := hrel
    clear hL0 hI hW0
    have hs1 : w.heap.size ≤ wr.heap.size := hwr.size
    by_cases hlt : k < m
    · obtain ⟨b, off, rfl, hB⟩ := HP.out.addr (by omega)
      obtain ⟨e0, e1⟩ := HP.out.at2 hlt
      simp only [Need.c] at e0 e1
      have f0 := (hwr.cell (p := ⟨_, _, none⟩) hB).trans e0
      have f1 := (hwr.cell (p := ⟨_, _, none⟩) hB).trans e1
      clear e0 e1
      have hlt' : (k : Int) < m := by omega
      have hk0 : (0 : Int) ≤ k := by omega
      go_upto_region 6 with (fail)
      have qN := Blk.new wr 47 #[.int .i64 (need k).lot, .int .i64 (need k).len]
      have qL := kL.alloc (.cells #[.int .i64 (need k).lot, .int .i64 (need k).len] 47)
      have qI := kI.alloc (.cells #[.int .i64 (need k).lot, .int .i64 (need k).len] 47)
      have qb := hwr.alloc hs1 (.cells #[.int .i64 (need k).lot, .int .i64 (need k).len] 47)
      generalize hW : wr.alloc _ = W at qN qL qI qb ⊢
      have hgk : gi < wr.heap.size := (kI.lt gi rfl).2
      clear hW f0 f1 kL kI
      go_wp2_with fail
      obtain ⟨_, _, hform, _, _, hrow⟩ := qL.form
      injection hform with hA1 _ hA2
      subst hA1; subst hA2
      refine (pick_any _ n _ _ (need k).lot (need k).len wr.heap.size _ hn qN.lt (qN.cell 0) (qN.cell 1) hrow).mono ?_
      rintro e w2 ⟨rfl, hb2⟩
      have rN := qN.later hb2
      have rL := qL.later hb2
      have rI := qI.later hb2
      have rb := below_up qb hb2
      clear qN qL qI qb hb2 hrow
      obtain ⟨gi', cap', hform, _, _, _, _, hcI, hfI⟩ := rI.blk (by omega)
      injection hform with hA1 _ hA2
      injection hA1 with hA1
      injection hA1 with hA1 _
      subst hA1; subst hA2
      have d0 := hcI k 0 hlt (by omega)
      have d1 := hfI k
      rw [Nat.mul_one, Nat.add_zero] at d0
      clear hcI hfI
      obtain ⟨ov, d2⟩ : ∃ ov, w2.cell? ⟨gi, k, none⟩ = some ov := ⟨_, d0⟩
      clear d0
      have hne1 : (Value.slice AL n cL).ownBlock ≠ some gi := fun h => absurd (HS.out gi h) (by omega)
      rcases pick_spec n (leftF n need rest k) ⟨(need k).lot, (need k).len⟩ with ⟨hpk, hall⟩ | ⟨j, hj, hpk, hserv, hbef⟩
      · rw [hpk]
        have HK := Lib.hid hpk
        clear hpk hall
        go_wp2_with fail
        have sI := rI.put1 (k := k) (.int .i64 (-1))
        have sL := rL.far (p := ⟨gi, k, none⟩) hne1 (.int .i64 (-1))
        have sb := rb.setCell (p := ⟨gi, k, none⟩) hgi0 (.int .i64 (-1))
        generalize hW : World.setCell _ _ _ = W4 at sI sL sb ⊢
        clear hW
        go_roundw
        case rel => exact ⟨k + 1, by omega, by go_num, sL.congr (fun i l hi hl => by rw [left_none HK.out]), sI.congr (fun i l hi hl => got_upd HK.out i l hl), sb⟩
        case measure => simp [intOf]; omega
      · rw [hpk]
        have HK := Lib.hid hpk
        obtain ⟨v1, v2, v3, v4, v5, v6⟩ := serves_bd hserv
        clear hpk hserv hbef
        go_upto_region 9 with (fail)
        have sI := rI.put1 (k := k) (.int .i64 j)
        have sL := rL.far (p := ⟨gi, k, none⟩) hne1 (.int .i64 j)
        have sN := rN.far (p := ⟨gi, k, none⟩) (by simp only []; omega) (.int .i64 j)
        have sb := rb.setCell (p := ⟨gi, k, none⟩) hgi0 (.int .i64 j)
        generalize hW : World.setCell _ _ _ = W4 at sI sL sN sb ⊢
        clear hW rI rL rN rb d1 d2
        obtain ⟨gl, cl, hform, hgl, hglt, _, _, hcl, hfl⟩ := sL.blk (by omega)
        injection hform with hA1 _ hA2
        subst hA1; subst hA2
        have hglg : gl < gi := HS.out gl rfl
        have c0 := hcl j 2 hj (by omega)
        have c1 := hfl (j * 4 + 2)
        have c2 := sN.cell 1
        simp [Rest.c] at c0 c2
        clear hcl hfl
        have hj0 : (0 : Int) ≤ j := by omega
        have hj1 : (j : Int) < n := by omega
        have r1 : IntKind.i64.wrap ((leftF n need rest k j).frm + (need k).len) = (leftF n need rest k j).frm + (need k).len := wrap_cast (by omega) (by omega)
        go_still_tail 10, (by kernel_rfl)
        go_upto_region 10 with (fail)
        clear r1 c0 c1 c2
        have tL := (sL.put (k := j) (j := 2) (by omega) (.int .i64 ((leftF n need rest k j).frm + (need k).len))).drew
        have tI := (sI.far (p := ⟨gl, j * 4 + 2, none⟩) (fun h => by have h2 : gi = gl := Option.some.inj h; omega) (.int .i64 ((leftF n need rest k j).frm + (need k).len))).drew
        have tb := (sb.setCell (p := ⟨gl, j * 4 + 2, none⟩) hgl (.int .i64 ((leftF n need rest k j).frm + (need k).len))).drew
        generalize hW : World.drew _ = W5 at tL tI tb ⊢
        clear hW
        go_wp2_with fail
        go_roundw
        case rel => exact ⟨k + 1, by omega, by go_num, tL.congr (fun i l hi hl => left_some HK.out i l hl), tI.congr (fun i l hi hl => got_upd HK.out i l hl), tb⟩
        case measure => simp [intOf]; omega
    · go_wp2_with fail
      obtain rfl : k = m := by omega
      go_ret2
      refine ⟨_, _, rfl, kL, kI.congr (fun i l hi hl => by rw [if_pos hi]), hwr⟩

end Go.Proofs.Ytmjfalabjlbdeaa
