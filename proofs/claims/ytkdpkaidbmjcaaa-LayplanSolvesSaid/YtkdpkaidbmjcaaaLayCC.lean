/- The reference's search, plain: two parts of the plans joined; the best plan is one. Its asked and between. -/
import Derived.Test.YtkdpkaidbmjcaaaLayBB
namespace Go.Proofs.Ytkdpkaidbmjcaaa
open Go.RowKit
set_option linter.unusedSimpArgs false
set_option linter.unusedVariables false

theorem lt_total {q p : Plan} : ∀ k, ¬ LtTo k q p → ¬ LtTo k p q → EqTo k p q
  | 0, _, _ => fun j hj => absurd hj (by omega)
  | k + 1, h1, h2 => by
    rw [lt_succ_iff] at h1 h2
    have e := lt_total k (fun h => h1 (.inl h)) (fun h => h2 (.inl h))
    refine eq_succ_iff.2 ⟨e, ?_⟩
    have g1 : ¬ q k < p k := fun h => h1 (.inr ⟨e, h⟩)
    have g2 : ¬ p k < q k := fun h => h2 (.inr ⟨fun j hj => (e j hj).symm, h⟩)
    omega

/-- The one found, or none. -/
def optB (ok : Bool) (r : Plan) : Option Plan := if ok = true then some r else none

section
variable {M : Nat} {Feas : Plan → Prop} {cost : Plan → Int}

theorem Opt.unique {Q : Plan → Prop} {r r' : Plan} (h : Opt M Feas cost Q (some r)) (h' : Opt M Feas cost Q (some r')) : EqTo M r r' := by
  obtain ⟨a1, a2, a3⟩ := h
  obtain ⟨b1, b2, b3⟩ := h'
  have c1 := a3 r' b1 b2
  have c2 := b3 r a1 a2
  refine lt_total M ?_ ?_
  · rcases c1 with c | ⟨_, c⟩
    · rcases c2 with d | ⟨d, _⟩ <;> omega
    · exact c
  · rcases c2 with c | ⟨_, c⟩
    · rcases c1 with d | ⟨d, _⟩ <;> omega
    · exact c

section
variable {Q1 Q2 : Plan → Prop} {r1 r2 : Plan} {b : Option Plan}
/-- The second part has none. -/
theorem Opt.joinNone (h1 : Opt M Feas cost Q1 b) (h2 : Opt M Feas cost Q2 none) : Opt M Feas cost (fun q => Q1 q ∨ Q2 q) b :=
  h1.congr fun q hf => ⟨.inl, fun h => h.resolve_right (h2 q hf)⟩
/-- The first part has none. -/
theorem Opt.joinFirst (h1 : Opt M Feas cost Q1 none) (h2 : Opt M Feas cost Q2 b) : Opt M Feas cost (fun q => Q1 q ∨ Q2 q) b :=
  h2.congr fun q hf => ⟨.inr, fun h => h.resolve_left (h1 q hf)⟩
/-- The second one is cheaper. -/
theorem Opt.joinLess (h1 : Opt M Feas cost Q1 (some r1)) (h2 : Opt M Feas cost Q2 (some r2)) (hc : cost r2 < cost r1) : Opt M Feas cost (fun q => Q1 q ∨ Q2 q) (some r2) :=
  ⟨h2.1, .inr h2.2.1, fun q hf hq => by
    rcases hq with hq | hq
    · have := h1.2.2 q hf hq
      left; omega
    · exact h2.2.2 q hf hq⟩
/-- It is not. -/
theorem Opt.joinKeep (h1 : Opt M Feas cost Q1 (some r1)) (h2 : Opt M Feas cost Q2 (some r2)) (hc : ¬ cost r2 < cost r1) (hl : ∀ q r, Q1 q → Q2 r → LtTo M q r) : Opt M Feas cost (fun q => Q1 q ∨ Q2 q) (some r1) :=
  ⟨h1.1, .inl h1.2.1, fun q hf hq => by
    rcases hq with hq | hq
    · exact h1.2.2 q hf hq
    · have h3 := h2.2.2 q hf hq
      by_cases hlt : cost r1 < cost q
      · exact .inl hlt
      · exact .inr ⟨by omega, fun h => lt_asymm (hl r1 q h1.2.1 hq) h⟩⟩
end

/-- Those that begin like p and lay fewer than k of the next mix. -/
def Upto (l : Nat) (p : Plan) (k : Int) : Plan → Prop := fun q => EqTo l p q ∧ q l < k

theorem upto_lt {l : Nat} {p : Plan} {k : Int} (hl : l < M) : ∀ q r, Upto l p k q → EqTo (l + 1) (setP p l k) r → LtTo M q r := fun q r hq hr =>
  ⟨l, hl, fun a ha => by rw [hq.1 a ha, hr a (by omega), setP_ne p k (by omega)], by rw [hr l (by omega), setP_at]; exact hq.2⟩

theorem upto_next {l : Nat} {p q : Plan} {k : Int} : (Upto l p k q ∨ EqTo (l + 1) (setP p l k) q) ↔ Upto l p (k + 1) q := by
  unfold Upto
  have e : ∀ j, j < l → p j = setP p l k j := fun j hj => (setP_ne p k (by omega)).symm
  rw [eq_succ_iff, ← eq_congr e, setP_at]
  constructor
  · rintro (⟨h1, h2⟩ | ⟨h1, h2⟩)
    · exact ⟨h1, by omega⟩
    · exact ⟨h1, by omega⟩
  · rintro ⟨h1, h2⟩
    by_cases h : q l < k
    · exact .inl ⟨h1, h⟩
    · exact .inr ⟨h1, by omega⟩

theorem Opt.next {l : Nat} {p : Plan} {k : Int} {b : Option Plan} (h : Opt M Feas cost (fun q => Upto l p k q ∨ EqTo (l + 1) (setP p l k) q) b) : Opt M Feas cost (Upto l p (k + 1)) b :=
  h.congr fun _ _ => upto_next
theorem Opt.none0 {l : Nat} {p : Plan} (h : ∀ q, Feas q → 0 ≤ q l) : Opt M Feas cost (Upto l p 0) none := fun q hf hq => by have := h q hf; have := hq.2; omega
theorem Opt.full {l : Nat} {p : Plan} {k : Int} {b : Option Plan} (h : Opt M Feas cost (Upto l p k) b) (hk : ∀ q, Feas q → q l < k) : Opt M Feas cost (EqTo l p) b :=
  h.congr fun q hf => ⟨fun hq => hq.1, fun hq => ⟨hq, hk q hf⟩⟩
end

/-- What is produced is at most over more than what is ordered, and, if the plan is whole, enough. -/
def Betw (n : Nat) (ord mk : Nat → Int) (over : Int) (whole : Bool) : Prop := ∀ s, s < n → mk s ≤ ord s + over ∧ (whole = true → ord s ≤ mk s)
instance (n : Nat) (ord mk : Nat → Int) (over : Int) (whole : Bool) : Decidable (Betw n ord mk over whole) := by unfold Betw; exact inferInstance

section
variable {M S : Nat} {cnt : Nat → Nat → Int} {len ord : Nat → Int} {over most : Int} {p : Plan}
theorem betw_no {l : Nat} {whole : Bool} (hw : whole = true → l = M) (hl : l ≤ M) (hc : ∀ i s, i < M → s < S → 0 ≤ cnt i s) (h : ¬ Betw S ord (fun s => madeF cnt p s l) over whole) :
    Opt M (FeasP M S cnt ord over most) (fun q => costF len q M) (EqTo l p) none := by
  intro q hf he
  refine h fun s hs => ?_
  obtain ⟨h1, h2⟩ := hf.2 s hs
  have h3 := made_tail s (fun i hi => hc i s hi hs) hf.1 hl
  have h4 := made_congr (cnt := cnt) he s
  dsimp only
  refine ⟨by omega, fun hwt => ?_⟩
  obtain rfl := hw hwt
  omega
theorem betw_leaf (hb : ∀ i, i < M → 0 ≤ p i ∧ p i ≤ most) (h : Betw S ord (fun s => madeF cnt p s M) over true) :
    Opt M (FeasP M S cnt ord over most) (fun q => costF len q M) (EqTo M p) (some p) :=
  ⟨⟨hb, fun s hs => ⟨(h s hs).2 rfl, (h s hs).1⟩⟩, fun _ _ => rfl, fun q _ he => .inr ⟨(cost_congr he).symm, fun ⟨j, hj, _, hl⟩ => by have := he j hj; omega⟩⟩
end

set_option maxHeartbeats 3200000 in
theorem between_any (Ao A2 : Option Addr) (n co c2 : Nat) (ord mk : Nat → Int) (over : Int) (whole : Bool) (w : World) (hn : n ≤ 12) (ho : ∀ i, i < n → 0 ≤ ord i ∧ ord i ≤ 1000) (hv : 0 ≤ over ∧ over ≤ 1000) (hp : Ints w Ao n ord) (hq : Ints w A2 n mk) :
    Calls Try.prog 42 #[.slice Ao n co, .slice A2 n c2, .int .i64 over, .bool whole] w fun e w' => e = .returned (.bool (decide (Betw n ord mk over whole))) ∧ Below w.heap.size w w' := by
  have HQ := Lib.hid hq
  have HP := Lib.hid hp
  have HO := Lib.hid ho
  clear hq hp ho
  go_enter Try.func42, Try.ntmps42
  go_wp2_with fail
  go_loopw [9] (fun t wr => ∃ k : Nat, k ≤ n ∧ t = .int .i64 k ∧ Hid (∀ s, s < k → mk s ≤ ord s + over ∧ (whole = true → ord s ≤ mk s)) ∧ Below w.heap.size w wr) (fun t _ => n - (intOf t).toNat)
  case atStart => exact ⟨0, Nat.zero_le _, rfl, Lib.hid (fun i hi => absurd hi (by omega)), Below.refl _ _⟩
  case round =>
    obtain ⟨k, hk, rfl, hno, hwr⟩ := hrel
    have hs1 := hwr.size
    by_cases hlt : k < n
    · obtain ⟨b, o, rfl, hB⟩ := HP.out.addr (by omega)
      obtain ⟨b2, o2, rfl, hB2⟩ := HQ.out.addr (by omega)
      have f0 := (hwr.cell (p := ⟨_, _, none⟩) hB).trans (HP.out.at1 hlt)
      have f1 := (hwr.cell (p := ⟨_, _, none⟩) hB2).trans (HQ.out.at1 hlt)
      have hlt' : (k : Int) < n := by omega
      have hk0 : (0 : Int) ≤ k := by omega
      obtain ⟨o0, o1⟩ := HO.out k hlt
      obtain ⟨v0, v1⟩ := hv
      have HNB := Lib.hid (fun (h : ¬ (mk k ≤ ord k + over ∧ (whole = true → ord k ≤ mk k))) => show decide (Betw n ord mk over whole) = false from decide_eq_false fun hb => h (hb k hlt))
      have HOK := Lib.hid (fun (h : mk k ≤ ord k + over ∧ (whole = true → ord k ≤ mk k)) => show ∀ s, s < k + 1 → mk s ≤ ord s + over ∧ (whole = true → ord s ≤ mk s) from fun s hs => by
        rcases Nat.lt_succ_iff_lt_or_eq.1 hs with h' | rfl
        · exact hno.out s h'
        · exact h)
      generalize mk k = X at *
      generalize ord k = Y at *
      have hw0 : IntKind.i64.wrap (Y + over) = Y + over := wrap_cast (by omega) (by omega)
      have x0 := fun z : Ext w.heap.size wr => z.cell (b := b) hB f0
      have x1 := fun z : Ext w.heap.size wr => z.cell (b := b2) hB2 f1
      clear f0 f1
      by_cases h1 : Y + over < X
      · have hd : decide (Y + over < X) = true := decide_eq_true h1
        have HR := Lib.hid (HNB.out (fun h => by omega))
        clear HNB HOK
        go_upto_region 4 with (fail)
        refine region_ext w.heap.size (by kernel_rfl) (by kernel_rfl) ?_
        repeat (go_big_quiet_step (fail))
        refine wpQuiet_nil ?_
        rintro _ ⟨z, rfl⟩
        obtain ⟨wq, hq⟩ := z
        dsimp only
        clear x0 x1
        have hwq : Below w.heap.size w wq := hwr.trans hq
        clear hwr hq
        go_wp2_with fail
        go_ret
        exact ⟨ret_bool HR.out.symm, hwq⟩
      have hd : decide (Y + over < X) = false := decide_eq_false h1
      cases whole
      · have HK := Lib.hid (HOK.out ⟨by omega, fun h => by cases h⟩)
        clear HNB HOK
        go_upto_region 4 with (fail)
        refine region_ext w.heap.size (by kernel_rfl) (by kernel_rfl) ?_
        repeat (go_big_quiet_step (fail))
        refine wpQuiet_nil ?_
        rintro _ ⟨z, rfl⟩
        obtain ⟨wq, hq⟩ := z
        dsimp only
        clear x0 x1
        have hwq : Below w.heap.size w wq := hwr.trans hq
        clear hwr hq
        go_wp2_with fail
        go_roundw
        case rel => exact ⟨k + 1, by omega, by go_num, HK, hwq⟩
        case measure => simp [intOf]; omega
      by_cases h2 : X < Y
      · have hd2 : decide (X < Y) = true := decide_eq_true h2
        have HR := Lib.hid (HNB.out (fun h => by have := h.2 rfl; omega))
        clear HNB HOK
        go_upto_region 4 with (fail)
        refine region_ext w.heap.size (by kernel_rfl) (by kernel_rfl) ?_
        repeat (go_big_quiet_step (fail))
        refine wpQuiet_nil ?_
        rintro _ ⟨z, rfl⟩
        obtain ⟨wq, hq⟩ := z
        dsimp only
        clear x0 x1
        have hwq : Below w.heap.size w wq := hwr.trans hq
        clear hwr hq
        go_wp2_with fail
        go_ret
        exact ⟨ret_bool HR.out.symm, hwq⟩
      · have hd2 : decide (X < Y) = false := decide_eq_false h2
        have HK := Lib.hid (HOK.out ⟨by omega, fun _ => by omega⟩)
        clear HNB HOK
        go_upto_region 4 with (fail)
        refine region_ext w.heap.size (by kernel_rfl) (by kernel_rfl) ?_
        repeat (go_big_quiet_step (fail))
        refine wpQuiet_nil ?_
        rintro _ ⟨z, rfl⟩
        obtain ⟨wq, hq⟩ := z
        dsimp only
        clear x0 x1
        have hwq : Below w.heap.size w wq := hwr.trans hq
        clear hwr hq
        go_wp2_with fail
        go_roundw
        case rel => exact ⟨k + 1, by omega, by go_num, Lib.hid (fun s hs => ⟨(HK.out s hs).1, fun _ => (HK.out s hs).2 rfl⟩), hwq⟩
        case measure => simp [intOf]; omega
    · have HR := Lib.hid (show decide (Betw n ord mk over whole) = true from decide_eq_true fun s hs => hno.out s (by omega))
      go_wp2_with fail
      go_ret
      exact ⟨ret_bool HR.out.symm, hwr⟩

set_option maxHeartbeats 3200000 in
theorem asked_any (A Ao : Option Addr) (n co m cM : Nat) (mx : Nat → MixM) (ord : Nat → Int) (over most : Int) (w : World) (hi : Ints w Ao n ord) (hq : Mixes w w.heap.size A m mx) (hn30 : n ≤ 1000) :
    Calls Try.prog 31 #[.slice Ao n co, .slice A m cM, .int .i64 over, .int .i64 most] w fun e w' => e = .returned (.int .i64 (askErr n ord m mx over most)) ∧ Below w.heap.size w w' := by
  have HQ := Lib.hid hq
  have HI := Lib.hid hi
  clear hq hi
  go_enter Try.func31, Try.ntmps31
  go_wp2_with fail
  refine (mixed_any A m cM mx w HQ.out).mono ?_
  rintro r w1 ⟨rfl, hb1⟩
  by_cases he : mixErr m mx = 0
  rotate_left
  · have HE := Lib.hid (ask_mix (n := n) (ord := ord) (over := over) (most := most) he)
    have hne : (mixErr m mx != 0) = true := bne_iff_ne.2 he
    clear he
    generalize mixErr m mx = x at *
    go_wp2_with fail
    go_ret
    exact ⟨ret_int HE.out.symm, hb1⟩
  have HE0 := Lib.hid he
  have HG := Lib.hid (good_of he)
  rw [he]
  clear he
  go_upto_if 19 with (fail)
  go_cut [10] (fun s wq => s = .int .i64 (sizesF m mx : Int) ∧ Below w.heap.size w wq)
  case first =>
    by_cases hm : m = 0
    · subst hm
      have HS := Lib.hid (show sizesF 0 mx = 0 from if_pos rfl)
      go_wp2_with fail
      go_meet
      case rel => exact ⟨by rw [HS.out]; rfl, hb1⟩
    · have HS := Lib.hid (show sizesF m mx = (mx 0).cn from if_neg hm)
      obtain ⟨b, o, rfl, hB⟩ := HQ.out.1.addr (by omega)
      obtain ⟨e0, -⟩ := (HQ.out.keep hb1).at (i := 0) (by omega)
      rw [Nat.zero_mul, Nat.add_zero] at e0
      have hm0 : 0 < m := by omega
      have hm0' : (0 : Int) < m := by omega
      go_wp2_with fail
      go_meet
      case rel => exact ⟨by rw [HS.out], hb1⟩
  case rest =>
    obtain ⟨rfl, hbc⟩ := hcut
    clear hb1
    by_cases hnm : n = sizesF m mx
    rotate_left
    · have hnb : ((n : Int) != (sizesF m mx : Int)) = true := bne_iff_ne.2 (by omega)
      have HE := Lib.hid (ask_len (ord := ord) (over := over) (most := most) HE0.out hnm)
      clear hnm
      generalize sizesF m mx = S at *
      go_wp2_with fail
      go_ret
      exact ⟨ret_int HE.out.symm, hbc⟩
    have hnb : ((n : Int) != (sizesF m mx : Int)) = false := by rw [← hnm]; simp
    have HNM := Lib.hid hnm
    have hn12 : n ≤ 12 := by rw [hnm]; exact HG.out.s12
    clear hnm
    generalize hS : sizesF m mx = S at hnb ⊢
    clear hS
    go_wp2_with fail
    go_loopw [11] (fun t wr => ∃ k : Nat, k ≤ n ∧ t = .int .i64 k ∧ Hid (∀ i, i < k → 0 ≤ ord i ∧ ord i ≤ 1000) ∧ Below w.heap.size w wr) (fun t _ => n - (intOf t).toNat)
    case atStart => exact ⟨0, Nat.zero_le _, rfl, Lib.hid (fun i hi => absurd hi (by omega)), hbc⟩
    case round =>
      clear hbc
      obtain ⟨k, hk, rfl, hno, hwr⟩ := hrel
      by_cases hlt : k < n
      · obtain ⟨b, o, rfl, hB⟩ := HI.out.addr (by omega)
        have f0 := (hwr.cell (p := ⟨_, _, none⟩) hB).trans (HI.out.at1 hlt)
        have hlt' : (k : Int) < n := by omega
        have hk0 : (0 : Int) ≤ k := by omega
        by_cases h1 : ord k < 0
        · have HE := Lib.hid (ask_ord (over := over) (most := most) HE0.out HNM.out ⟨k, hlt, .inl h1⟩)
          go_wp2_with fail
          go_ret
          exact ⟨ret_int HE.out.symm, hwr⟩
        by_cases h2 : 1000 < ord k
        · have HE := Lib.hid (ask_ord (over := over) (most := most) HE0.out HNM.out ⟨k, hlt, .inr h2⟩)
          go_wp2_with fail
          go_ret
          exact ⟨ret_int HE.out.symm, hwr⟩
        go_wp2_with fail
        go_roundw
        case rel => exact ⟨k + 1, by omega, by go_num, Lib.hid (fun i hi => by rcases Nat.lt_succ_iff_lt_or_eq.1 hi with h' | rfl; exact hno.out i h'; omega), hwr⟩
        case measure => simp [intOf]; omega
      · obtain rfl : k = n := by omega
        have HOK := Lib.hid (show ¬ OrdBad k ord from fun ⟨i, hi, h⟩ => by have := hno.out i hi; omega)
        by_cases h1 : over < 0
        · have HE := Lib.hid (ask_lim HE0.out HNM.out HOK.out (show LimBad over most from .inl h1))
          go_wp2_with fail
          go_ret
          exact ⟨ret_int HE.out.symm, hwr⟩
        by_cases h2 : 1000 < over
        · have HE := Lib.hid (ask_lim HE0.out HNM.out HOK.out (show LimBad over most from .inr (.inl h2)))
          go_wp2_with fail
          go_ret
          exact ⟨ret_int HE.out.symm, hwr⟩
        by_cases h3 : most < 0
        · have HE := Lib.hid (ask_lim HE0.out HNM.out HOK.out (show LimBad over most from .inr (.inr (.inl h3))))
          go_wp2_with fail
          go_ret
          exact ⟨ret_int HE.out.symm, hwr⟩
        by_cases h4 : 40 < most
        · have HE := Lib.hid (ask_lim HE0.out HNM.out HOK.out (show LimBad over most from .inr (.inr (.inr h4))))
          go_wp2_with fail
          go_ret
          exact ⟨ret_int HE.out.symm, hwr⟩
        have HE := Lib.hid (ask_ok HE0.out HNM.out HOK.out (show ¬ LimBad over most from fun h => by unfold LimBad at h; omega))
        go_wp2_with fail
        go_ret
        exact ⟨ret_int HE.out.symm, hwr⟩

end Go.Proofs.Ytkdpkaidbmjcaaa
