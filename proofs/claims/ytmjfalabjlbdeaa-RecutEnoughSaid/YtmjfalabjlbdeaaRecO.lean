/- The reference's Assign. -/
import Derived.Test.YtmjfalabjlbdeaaRecN
import Derived.StillTailTactics
namespace Go.Proofs.Ytmjfalabjlbdeaa
open Go.RowKit
set_option linter.unusedSimpArgs false
set_option linter.unusedVariables false

theorem got_glue {n k : Nat} {need : Nat → Need} {rest : Nat → Rest} {x : Int} (h : pickF n (leftF n need rest k) ⟨(need k).lot, (need k).len⟩ = x) (i l : Nat) (hi : i < k + 1) :
    glue k (fun i _ => .int .i64 (gotF n need rest i)) (fun _ _ => .int .i64 x) i l = .int .i64 (gotF n need rest i) := by
  unfold glue
  by_cases h1 : i < k
  · rw [if_pos h1]
  · rw [if_neg h1]
    obtain rfl : i = k := by omega
    rw [← h]
    rfl

set_option maxRecDepth 100000 in
set_option maxHeartbeats 1600000 in
theorem rassign_any (A A2 : Option Addr) (m c n c2 : Nat) (need : Nat → Need) (rest : Nat → Rest) (w : World) (hm : m ≤ 1000) (hn : n ≤ 1000)
    (hp : Row w w.heap.size 2 A m (fun i => (need i).c)) (hq : Row w w.heap.size 4 A2 n (fun i => (rest i).c)) :
    Calls Try.prog 18 #[.slice A m c, .slice A2 n c2] w (AssignPost w m n need rest) := by
  have HP := Lib.hid hp
  have HQ := Lib.hid hq
  clear hp hq
  obtain ⟨i0, hi0, hz0, hz1, hz2⟩ := info_parts cloneRest_any_info
  obtain ⟨i1, hi1, hy0, hy1, hy2⟩ := info_parts cloneInt_any_info
  have HI0 := Lib.hid hi0
  have HI1 := Lib.hid hi1
  have HZ := Lib.hid (And.intro hz0 (And.intro hz1 hz2))
  have HY := Lib.hid (And.intro hy0 (And.intro hy1 hy2))
  clear hi0 hz0 hz1 hz2 hi1 hy0 hy1 hy2
  go_enter Try.func18, Try.ntmps18
  go_upto_region 2 with (at_builtin; refine wpList_append_row _ rfl _ _ _ rfl w.heap.size 49 i0 _ 4 32 Try.underlying33 HI0.out HZ.out.1 HZ.out.2.1 HZ.out.2.2 rfl (by omega) _ 0 (fun i => (rest i).c) rfl (Owned.nil _ _ _ _ _) _ _ n c2 (fun i => (rest i).c) rfl HQ.out (plain_rest rest n) (by simp only [maxLen]; omega) (by omega) (by simp) ?_; intro vL w1 hown hgr hbk)
  have hb1 : Below w.heap.size w w1 := (Below.refl _ _).grown hgr (Nat.le_refl _) (fun k hk => by cases hk)
  rw [Nat.zero_add] at hown
  have hL := hown.congr (g := fun i => (rest i).c) (fun i j _ _ => by simp [glue])
  clear hown hgr hbk
  obtain ⟨AL, cL, rfl, hncL, hcL, _⟩ := hL.form
  go_wp2_with fail
  go_loopw [7, 8] (fun v t wr => ∃ k : Nat, k ≤ m ∧ t = .int .i64 k ∧ Owned wr w.heap.size 49 4 (.slice AL n cL) n (fun i => (leftF n need rest k i).c) ∧
      Owned wr w.heap.size 3 1 v k (fun i _ => .int .i64 (gotF n need rest i)) ∧ Below w.heap.size w wr) (fun _ t _ => m - (intOf t).toNat)
  case atStart => exact ⟨0, Nat.zero_le _, rfl, hL, Owned.nil _ _ _ _ _, hb1⟩
  case round =>
    obtain ⟨k, hk, rfl, kL, kI, hwr⟩ := hrel
    clear hL hb1
    have hs1 : w.heap.size ≤ wr.heap.size := hwr.size
    by_cases hlt : k < m
    · obtain ⟨b, off, rfl, hB⟩ := HP.out.addr (by omega)
      obtain ⟨e0, e1⟩ := HP.out.at2 hlt
      simp only [Need.c] at e0 e1
      have f0 := (hwr.cell (p := ⟨_, _, none⟩) hB).trans e0
      have f1 := (hwr.cell (p := ⟨_, _, none⟩) hB).trans e1
      have hlt' : (k : Int) < m := by omega
      have hk0 : (0 : Int) ≤ k := by omega
      obtain ⟨_, _, hform, _, _, hrow⟩ := kL.form
      injection hform with hA1 _ hA2
      subst hA1; subst hA2
      have HRow := Lib.hid hrow
      clear hrow
      go_upto_region 7 with (go_at_call 32; refine (first_any _ n _ _ (need k).lot (need k).len _ hn HRow.out).mono ?_; rintro e w2 ⟨rfl, hb2⟩)
      have rL := kL.later hb2
      have rI := kI.later hb2
      have rb := below_up hwr hb2
      clear kL kI hb2 HRow f0 f1
      have hz4 : w.heap.size ≤ w2.heap.size := rb.size
      obtain ⟨x, hx⟩ : ∃ x, pickF n (leftF n need rest k) ⟨(need k).lot, (need k).len⟩ = x := ⟨_, rfl⟩
      have HX := Lib.hid hx
      rw [hx]
      clear hx
      go_upto_region 8 with (at_builtin; refine wpList_append_row _ rfl _ _ _ rfl w.heap.size 3 i1 _ 1 8 Try.underlying27 HI1.out HY.out.1 HY.out.2.1 HY.out.2.2 rfl (by omega) _ k _ rfl (rI.alloc _) _ _ 1 1 (fun _ _ => .int .i64 x) rfl (Row.lit w2 #[.int .i64 x] 1 3 1 _ (by simp only [maxLen]; omega) rfl) (fun i j _ hj => rfl) (by simp only [maxLen]; omega) (by omega) (by simp; omega) ?_; intro v2 w5 hown2 hgr2 hbk2)
      have uL := (rL.alloc (.cells #[.int .i64 x] 3)).grown_other (rI.alloc _) (by decide) hgr2
      have ub := (rI.alloc (.cells #[.int .i64 x] 3)).below_grown (rb.alloc hz4 _) (Nat.le_refl _) (by simp; omega) hgr2
      have uI := hown2.congr (g := fun i _ => .int .i64 (gotF n need rest i)) (fun i l hi hl => got_glue HX.out i l hi)
      clear hown2 hgr2 hbk2 rL rI rb
      rcases pick_spec n (leftF n need rest k) ⟨(need k).lot, (need k).len⟩ with ⟨hpk, hall⟩ | ⟨j, hj, hpk, hserv, hbef⟩
      · obtain rfl : x = -1 := HX.out.symm.trans hpk
        clear hpk hall
        go_wp2_with fail
        go_roundw
        case rel => exact ⟨k + 1, by omega, by go_num, uL.congr (fun i l hi hl => by rw [left_none HX.out]), uI, ub⟩
        case measure => simp [intOf]; omega
      · obtain rfl : x = (j : Nat) := HX.out.symm.trans hpk
        obtain ⟨s1, s2, s3, s4, s5, s6⟩ := serves_bd hserv
        clear hpk hserv hbef
        obtain ⟨gl, cl, hform, hgl, hglt, _, _, hcl, hfl⟩ := uL.blk (by omega)
        injection hform with hA1 _ hA2
        subst hA1; subst hA2
        have hsp := uL.sep uI (by decide) gl rfl
        have c0 := hcl j 2 hj (by omega)
        have c1 := hfl (j * 4 + 2)
        have c2 := (ub.cell (p := ⟨_, _, none⟩) hB).trans e1
        simp [Rest.c] at c0
        clear hcl hfl e0 e1
        have hj0 : (0 : Int) ≤ j := by omega
        have hj1 : (j : Int) < n := by omega
        have r1 : IntKind.i64.wrap ((leftF n need rest k j).frm + (need k).len) = (leftF n need rest k j).frm + (need k).len := wrap_cast (by omega) (by omega)
        go_upto_region 9 with (fail)
        go_still_tail 15, (by kernel_rfl)
        go_upto_region 5 with (fail)
        clear r1 c0 c1 c2
        have tL := (uL.put (k := j) (j := 2) (by omega) (.int .i64 ((leftF n need rest k j).frm + (need k).len))).drew
        have tI := (uI.far (p := ⟨gl, j * 4 + 2, none⟩) hsp (.int .i64 ((leftF n need rest k j).frm + (need k).len))).drew
        have tb := (ub.setCell (p := ⟨gl, j * 4 + 2, none⟩) hgl (.int .i64 ((leftF n need rest k j).frm + (need k).len))).drew
        generalize hW : World.drew _ = W5 at tL tI tb ⊢
        clear hW
        go_wp2_with fail
        go_roundw
        case rel => exact ⟨k + 1, by omega, by go_num, tL.congr (fun i l hi hl => left_some HX.out i l hl), tI, tb⟩
        case measure => simp [intOf]; omega
    · go_wp2_with fail
      obtain rfl : k = m := by omega
      go_ret2
      exact ⟨_, _, rfl, kL, kI, hwr⟩

end Go.Proofs.Ytmjfalabjlbdeaa
