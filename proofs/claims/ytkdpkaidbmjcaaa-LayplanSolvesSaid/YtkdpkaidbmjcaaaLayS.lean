/- Solve. -/
import Derived.Test.YtkdpkaidbmjcaaaLayR
namespace Go.Proofs.Ytkdpkaidbmjcaaa
open Go.RowKit
set_option linter.unusedSimpArgs false
set_option linter.unusedVariables false

/-- The error of the arguments of Solve. -/
def OrdBad (n : Nat) (f : Nat → Int) : Prop := ∃ i, i < n ∧ (f i < 0 ∨ 1000 < f i)
instance (n : Nat) (f : Nat → Int) : Decidable (OrdBad n f) := by unfold OrdBad; exact inferInstance
def LimBad (over most : Int) : Prop := over < 0 ∨ 1000 < over ∨ most < 0 ∨ 40 < most
instance (a b : Int) : Decidable (LimBad a b) := by unfold LimBad; exact inferInstance
def askErr (n : Nat) (ord : Nat → Int) (m : Nat) (mx : Nat → MixM) (over most : Int) : Int :=
  if mixErr m mx ≠ 0 then mixErr m mx else if n ≠ sizesF m mx then 1 else if OrdBad n ord then 3 else if LimBad over most then 3 else 0

section
variable {n m : Nat} {ord : Nat → Int} {mx : Nat → MixM} {over most : Int}
theorem ask_mix (h : mixErr m mx ≠ 0) : askErr n ord m mx over most = mixErr m mx := if_pos h
theorem ask_len (h : mixErr m mx = 0) (h2 : n ≠ sizesF m mx) : askErr n ord m mx over most = 1 := by unfold askErr; rw [if_neg (fun hh => hh h), if_pos h2]
theorem ask_ord (h : mixErr m mx = 0) (h2 : n = sizesF m mx) (h3 : OrdBad n ord) : askErr n ord m mx over most = 3 := by unfold askErr; rw [if_neg (fun hh => hh h), if_neg (fun hh => hh h2), if_pos h3]
theorem ask_lim (h : mixErr m mx = 0) (h2 : n = sizesF m mx) (h3 : ¬ OrdBad n ord) (h4 : LimBad over most) : askErr n ord m mx over most = 3 := by unfold askErr; rw [if_neg (fun hh => hh h), if_neg (fun hh => hh h2), if_neg h3, if_pos h4]
theorem ask_ok (h : mixErr m mx = 0) (h2 : n = sizesF m mx) (h3 : ¬ OrdBad n ord) (h4 : ¬ LimBad over most) : askErr n ord m mx over most = 0 := by unfold askErr; rw [if_neg (fun hh => hh h), if_neg (fun hh => hh h2), if_neg h3, if_neg h4]
end

/-- The plans of a task; the best one. -/
abbrev BestP (n : Nat) (ord : Nat → Int) (m : Nat) (mx : Nat → MixM) (over most : Int) (b : Option Plan) : Prop := Opt m (FeasP m n (cntM mx) ord over most) (fun q => costF (lenM mx) q m) (fun _ => True) b

/-- x is the error of Solve, r the plan. -/
def SolveOut (n : Nat) (ord : Nat → Int) (m : Nat) (mx : Nat → MixM) (over most x : Int) (r : Plan) : Prop :=
  (x = askErr n ord m mx over most ∧ x ≠ 0 ∧ x ≠ 18) ∨ (askErr n ord m mx over most = 0 ∧ x = 18 ∧ BestP n ord m mx over most none) ∨ (askErr n ord m mx over most = 0 ∧ x = 0 ∧ BestP n ord m mx over most (some r))

/-- What Solve returns, of both. -/
def SolvePost (n : Nat) (ord : Nat → Int) (m : Nat) (mx : Nat → MixM) (over most : Int) (w : World) (e : Ending) (w' : World) : Prop :=
  ∃ v x r, e = .returned (.tuple #[v, .int .i64 x]) ∧ SolveOut n ord m mx over most x r ∧ Owned w' w.heap.size 3 1 v (if x = 0 then m else 0) (fun i _ => .int .i64 (r i)) ∧ Below w.heap.size w w'

theorem mixErr_val (m : Nat) (mx : Nat → MixM) : mixErr m mx = 0 ∨ mixErr m mx = 5 ∨ mixErr m mx = 1 := by
  unfold mixErr
  split
  · exact .inr (.inl rfl)
  · split
    · exact .inr (.inr rfl)
    · exact .inl rfl

theorem solve_bad {n m : Nat} {ord : Nat → Int} {mx : Nat → MixM} {over most : Int} {w w' : World} {x : Int} (h : askErr n ord m mx over most = x) (h0 : x ≠ 0) (h1 : x ≠ 18) (hb : Below w.heap.size w w') :
    SolvePost n ord m mx over most w (.returned (.tuple #[.slice none 0 0, .int .i64 x])) w' :=
  ⟨_, x, fun _ => 0, rfl, .inl ⟨h.symm, h0, h1⟩, by rw [if_neg h0]; exact Owned.nil _ _ _ _ _, hb⟩

set_option maxRecDepth 100000 in
set_option maxHeartbeats 3200000 in
theorem Solve_any (A Ao : Option Addr) (n co m cM : Nat) (mx : Nat → MixM) (ord : Nat → Int) (over most : Int) (w : World) (hi : Ints w Ao n ord) (hq : Mixes w w.heap.size A m mx) (hn30 : n ≤ 1000) :
    Calls Try.prog 14 #[.slice Ao n co, .slice A m cM, .int .i64 over, .int .i64 most] w (SolvePost n ord m mx over most w) := by
  have HQ := Lib.hid hq
  have HI := Lib.hid hi
  clear hq hi
  go_enter Try.func14, Try.ntmps14
  go_wp2_with fail
  refine (checkMixes_any A m cM mx w HQ.out).mono ?_
  rintro r w1 ⟨rfl, hb1⟩
  by_cases he : mixErr m mx = 0
  rotate_left
  · have HE := Lib.hid (ask_mix (n := n) (ord := ord) (over := over) (most := most) he)
    have H1 := Lib.hid he
    have H2 := Lib.hid (show mixErr m mx ≠ 18 by rcases mixErr_val m mx with h | h | h <;> rw [h] <;> decide)
    have hne : (mixErr m mx != 0) = true := bne_iff_ne.2 he
    clear he
    generalize mixErr m mx = x at *
    go_wp2_with fail
    go_ret2
    exact solve_bad HE.out H1.out H2.out hb1
  have HE0 := Lib.hid he
  have HG := Lib.hid (good_of he)
  have HSZ := Lib.hid (show sizesOk m mx = sizesF m mx by unfold sizesOk; rw [if_pos he])
  rw [he, HSZ.out]
  clear he
  by_cases hnm : n = sizesF m mx
  rotate_left
  · have hnb : ((n : Int) != (sizesF m mx : Int)) = true := bne_iff_ne.2 (by omega)
    have HE := Lib.hid (ask_len (ord := ord) (over := over) (most := most) HE0.out hnm)
    clear hnm
    generalize sizesF m mx = S at *
    go_wp2_with fail
    go_ret2
    exact solve_bad HE.out (by decide) (by decide) hb1
  have hnb : ((n : Int) != (sizesF m mx : Int)) = false := by rw [← hnm]; simp
  have HNM := Lib.hid hnm
  have hn12 : n ≤ 12 := by rw [hnm]; exact HG.out.s12
  clear hnm
  generalize hS : sizesF m mx = S at hnb ⊢
  clear hS
  go_wp2_with fail
  go_loopw [29] (fun t wr => ∃ k : Nat, k ≤ n ∧ t = .int .i64 k ∧ Hid (∀ i, i < k → 0 ≤ ord i ∧ ord i ≤ 1000) ∧ Below w.heap.size w wr) (fun t _ => n - (intOf t).toNat)
  case atStart => exact ⟨0, Nat.zero_le _, rfl, Lib.hid (fun i hi => absurd hi (by omega)), hb1⟩
  case round =>
    clear hb1
    obtain ⟨k, hk, rfl, hno, hwr⟩ := hrel
    by_cases hlt : k < n
    · obtain ⟨b, o, rfl, hB⟩ := HI.out.addr (by omega)
      have f0 := (hwr.cell (p := ⟨_, _, none⟩) hB).trans (HI.out.at1 hlt)
      have hlt' : (k : Int) < n := by omega
      have hk0 : (0 : Int) ≤ k := by omega
      by_cases h1 : ord k < 0
      · have HE := Lib.hid (ask_ord (over := over) (most := most) HE0.out HNM.out ⟨k, hlt, .inl h1⟩)
        go_wp2_with fail
        go_ret2
        exact solve_bad HE.out (by decide) (by decide) hwr
      by_cases h2 : 1000 < ord k
      · have HE := Lib.hid (ask_ord (over := over) (most := most) HE0.out HNM.out ⟨k, hlt, .inr h2⟩)
        go_wp2_with fail
        go_ret2
        exact solve_bad HE.out (by decide) (by decide) hwr
      go_wp2_with fail
      go_roundw
      case rel => exact ⟨k + 1, by omega, by go_num, Lib.hid (fun i hi => by rcases Nat.lt_succ_iff_lt_or_eq.1 hi with h' | rfl; exact hno.out i h'; omega), hwr⟩
      case measure => simp [intOf]; omega
    · obtain rfl : k = n := by omega
      have HOK := Lib.hid (show ¬ OrdBad k ord from fun ⟨i, hi, h⟩ => by have := hno.out i hi; omega)
      by_cases h1 : over < 0
      · have HE := Lib.hid (ask_lim HE0.out HNM.out HOK.out (show LimBad over most from .inl h1))
        go_wp2_with fail
        go_ret2
        exact solve_bad HE.out (by decide) (by decide) hwr
      by_cases h2 : 1000 < over
      · have HE := Lib.hid (ask_lim HE0.out HNM.out HOK.out (show LimBad over most from .inr (.inl h2)))
        go_wp2_with fail
        go_ret2
        exact solve_bad HE.out (by decide) (by decide) hwr
      by_cases h3 : most < 0
      · have HE := Lib.hid (ask_lim HE0.out HNM.out HOK.out (show LimBad over most from .inr (.inr (.inl h3))))
        go_wp2_with fail
        go_ret2
        exact solve_bad HE.out (by decide) (by decide) hwr
      by_cases h4 : 40 < most
      · have HE := Lib.hid (ask_lim HE0.out HNM.out HOK.out (show LimBad over most from .inr (.inr (.inr h4))))
        go_wp2_with fail
        go_ret2
        exact solve_bad HE.out (by decide) (by decide) hwr
      have HE := Lib.hid (ask_ok HE0.out HNM.out HOK.out (show ¬ LimBad over most from fun h => by unfold LimBad at h; omega))
      go_wp2_with fail
      refine (newFinder_any A Ao m cM k co mx ord over most wr HG.out HNM.out hno.out (by omega) (by omega) (by omega) (by omega) ((HI.out.keep hwr).more hwr.size) (HQ.out.later hwr)).mono ?_
      rintro e w2 ⟨E, em, eS, emx, eord, eov, emo, ebase, ok, rfl, hfin, hb2⟩
      have HOk := Lib.hid ok
      have HFin := Lib.hid hfin
      have HEQ := Lib.hid (And.intro em (And.intro eS (And.intro emx (And.intro eord (And.intro eov (And.intro emo ebase))))))
      have hbase : E.base ≤ w2.heap.size := by rw [ebase]; exact hb2.size
      have hbb := below_up hwr hb2
      clear em eS emx eord eov emo ebase ok hfin
      go_wp2_with fail
      refine (run_any E HOk.out w2 _ _ HFin.out hbase).mono ?_
      rintro e w3 ⟨rfl, b, gh, p, bv, ls, fd, hopt, hf3, hbest, hbut, hgh⟩
      have HOPT := Lib.hid hopt
      have HBEST := Lib.hid hbest
      obtain ⟨-, -, -, -, -, -, -, -, -, f9, -, f11, -⟩ := hf3.fields
      have hb3 : Below w.heap.size w w3 := hbb.trans ((hbut.below (fun k hk => by have := HOk.out.X_base k hk; rw [HEQ.out.2.2.2.2.2.2] at this; have := hwr.size; omega) hbb.size))
      have hw2 : w.heap.size ≤ gh + 1 := by have := hbb.size; omega
      clear hopt hbest hf3 hbut HFin
      cases b with
      | none =>
        have hfd : fd = false := HBEST.out
        subst hfd
        go_wp2_with fail
        go_ret2
        refine ⟨_, 18, fun _ => 0, rfl, .inr (.inl ⟨HE.out, rfl, ?_⟩), by rw [if_neg (by decide)]; exact Owned.nil _ _ _ _ _, hb3⟩
        have h5 := HOPT.out
        obtain ⟨q1, q2, q3, q4, q5, q6, _⟩ := HEQ.out
        unfold FEnv.Feas FEnv.cost at h5
        rw [q1, q2, q3, q4, q5, q6] at h5
        exact h5
      | some r =>
        obtain ⟨hfd, hls, hO⟩ := HBEST.out
        subst hfd
        have HO9 := Lib.hid hO
        clear hls hO
        go_wp2_with fail
        go_ret2
        refine ⟨_, 0, r, rfl, .inr (.inr ⟨HE.out, rfl, ?_⟩), ?_, hb3⟩
        · have h5 := HOPT.out
          obtain ⟨q1, q2, q3, q4, q5, q6, _⟩ := HEQ.out
          unfold FEnv.Feas FEnv.cost at h5
          rw [q1, q2, q3, q4, q5, q6] at h5
          exact h5
        · rw [if_pos rfl, ← HEQ.out.1]
          exact HO9.out.mono hw2

end Go.Proofs.Ytkdpkaidbmjcaaa
