/- PathBegins: the plain law and the walk. -/
import Derived.Test.YtpjckolfjaffjaaPthL
namespace Go.Proofs.Ytpjckolfjaffjaa
open Go.RowKit
set_option linter.unusedSimpArgs false
set_option linter.unusedVariables false

theorem sgn_sq (x : Int) : 0 ≤ sgnF x * sgnF x := by rcases sgn_cases x with h | h | h <;> rw [h] <;> decide

theorem check_in' {n : Nat} {p : Nat → Spot} (h1 : ¬ 40 < n) (h2 : ¬ n < 3) (h : ∀ i, i < n → outsideF (p i) = false) (hs : SimpleP n p) : checkF n p = 0 := by
  rw [check_in h1 h2 h]
  unfold simpleF
  rw [decide_eq_true hs]
  rfl

theorem square_check {x y : Int} (h1 : -1048576 ≤ x) (h2 : x < 1048576) (h3 : -1048576 ≤ y) (h4 : y < 1048576) : checkF 4 (sqF x y) = 0 := by
  refine check_in' (by omega) (by omega) ?_ ⟨fun i hi' j hj => ?_, fun i hi' => ⟨?_, fun k hk hik hne => ?_⟩⟩
  · intro i hi'
    match i, hi' with
    | 0, _ => exact decide_eq_false (by simp [sqF]; omega)
    | 1, _ => exact decide_eq_false (by simp [sqF]; omega)
    | 2, _ => exact decide_eq_false (by simp [sqF]; omega)
    | 3, _ => exact decide_eq_false (by simp [sqF]; omega)
  · match i, hi', j, hj with
    | 1, _, 0, _ => exact decide_eq_false (by simp [sqF]; try omega)
    | 2, _, 0, _ => exact decide_eq_false (by simp [sqF]; try omega)
    | 2, _, 1, _ => exact decide_eq_false (by simp [sqF]; try omega)
    | 3, _, 0, _ => exact decide_eq_false (by simp [sqF]; try omega)
    | 3, _, 1, _ => exact decide_eq_false (by simp [sqF]; try omega)
    | 3, _, 2, _ => exact decide_eq_false (by simp [sqF]; try omega)
  · match i, hi' with
    | 0, _ => exact decide_eq_false (by simp [sqF, crossF, dotF])
    | 1, _ => exact decide_eq_false (by simp [sqF, crossF, dotF])
    | 2, _ => exact decide_eq_false (by simp [sqF, crossF, dotF])
    | 3, _ => exact decide_eq_false (by simp [sqF, crossF, dotF])
  · have hc : (i = 0 ∧ k = 2) ∨ (i = 0 ∧ k = 3) ∨ (i = 1 ∧ k = 3) := by omega
    rcases hc with ⟨rfl, rfl⟩ | ⟨rfl, rfl⟩ | ⟨rfl, rfl⟩
    · simp [meetF, onF, partedF, crossF, sqF]
      exact ⟨⟨fun _ _ => by omega, fun _ h => by omega⟩, fun _ => sgn_sq _⟩
    · exact absurd rfl hne
    · simp [meetF, onF, partedF, crossF, sqF]
      exact ⟨⟨fun _ _ => by omega, fun _ h => by omega⟩, fun _ => sgn_sq _⟩

/-- One polygon is replaced. -/
def replF (poly : Nat → Poly) (i : Nat) (q : Poly) : Nat → Poly := fun j => if j = i then q else poly j

section
variable {poly : Nat → Poly} {m i : Nat} {q : Poly}

theorem repl_start (h : q.spot 0 = (poly i).spot 0) (j : Nat) : startF (replF poly i q) j = startF poly j := by
  unfold startF replF
  by_cases hj : j = i
  · rw [if_pos hj, hj]; exact h
  · rw [if_neg hj]

theorem repl_check (h1 : checkF q.pn q.spot = 0) (h2 : checkF (poly i).pn (poly i).spot = 0) (j : Nat) : checkF (replF poly i q j).pn (replF poly i q j).spot = checkF (poly j).pn (poly j).spot := by
  unfold replF
  by_cases hj : j = i
  · rw [if_pos hj, hj, h1, h2]
  · rw [if_neg hj]

theorem repl_chk (h1 : checkF q.pn q.spot = 0) (h2 : checkF (poly i).pn (poly i).spot = 0) : chkErr m (replF poly i q) = chkErr m poly := by
  unfold chkErr
  rw [show (fun j => checkF (replF poly i q j).pn (replF poly i q j).spot) = fun j => checkF (poly j).pn (poly j).spot from funext fun j => repl_check h1 h2 j]

theorem repl_both (h1 : checkF q.pn q.spot = 0) (h2 : checkF (poly i).pn (poly i).spot = 0) (l : Nat) (ord : Nat → Int) : bothErr m (replF poly i q) l ord = bothErr m poly l ord := by
  unfold bothErr
  rw [repl_chk h1 h2]

theorem repl_starts (h : q.spot 0 = (poly i).spot 0) : startF (replF poly i q) = startF poly := funext fun j => repl_start h j

theorem repl_trav (h1 : checkF q.pn q.spot = 0) (h2 : checkF (poly i).pn (poly i).spot = 0) (h : q.spot 0 = (poly i).spot 0) (l : Nat) (ord : Nat → Int) : travV m (replF poly i q) l ord = travV m poly l ord := by
  unfold travV
  rw [repl_both h1 h2, repl_starts h]
end

def sqC (x y : Int) : Nat → Nat → Value := fun i j => if j = 0 then .int .i64 (sqF x y i).x else .int .i64 (sqF x y i).y

theorem boxown_any (x y : Int) (w : World) (h1 : -1048576 ≤ x) (h2 : x ≤ 1048576) (h3 : -1048576 ≤ y) (h4 : y ≤ 1048576) :
    Calls Try.prog 23 #[.int .i64 x, .int .i64 y] w fun e w' => ∃ A, e = .returned (.slice A 4 4) ∧ Owned w' w.heap.size 37 2 (.slice A 4 4) 4 (sqC x y) ∧ Below w.heap.size w w' := by
  have h1' := Owned.lit w #[.int .i64 x, .int .i64 y, .int .i64 (x + 1), .int .i64 y, .int .i64 (x + 1), .int .i64 (y + 1), .int .i64 x, .int .i64 (y + 1)] 4 37 2 (sqC x y) (by simp only [maxLen]; omega) rfl
  have HS := Lib.hid h1'
  clear h1'
  go_enter Try.func23, Try.ntmps23
  go_wp2_with fail
  go_ret
  exact ⟨_, rfl, HS.out, below_a1 _ _⟩

theorem owned_spots {w : World} {base : Nat} {A : Option Addr} {x y : Int} (h : Owned w base 37 2 (.slice A 4 4) 4 (sqC x y)) : Spots w w.heap.size A 4 (sqF x y) := by
  obtain ⟨A', c', e, _, _, hr⟩ := h.form
  injection e with e1 _ _
  rw [e1]
  exact spots_of_row hr

theorem spots_info : (Try.prog.info? 38).map (fun i => (i.zero, i.size, i.bytes)) = some (some (.slice none 0 0), 1, 24) := by kernel_rfl

set_option maxRecDepth 100000 in
set_option maxHeartbeats 3200000 in
theorem begins_any (A A2 : Option Addr) (m c l c2 nn : Nat) (poly : Nat → Poly) (ord : Nat → Int) (w : World) (hnn : nn ≤ 255) (hq : PolysIn w A m poly) (hp : Row w w.heap.size 1 A2 l (fun i _ => .int .i64 (ord i))) :
    Calls Try.prog 8 #[.slice A m c, .slice A2 l c2, .int .u8 nn] w fun e w' => e = .returned (.bool true) ∧ Below w.heap.size w w' := by
  have HQ := Lib.hid hq
  have HP := Lib.hid hp
  clear hq hp
  by_cases h8 : 8 < m
  · have h8' : (8 : Int) < m := by omega
    go_enter Try.func8, Try.ntmps8
    go_wp2_with fail
    refine (light_any A _ c poly _ HQ.out.1).mono ?_
    rintro e w1 ⟨hb1, rfl | ⟨rfl, hm, hs⟩⟩
    all_goals
      go_wp2_with fail
      refine (alive_any _).mono ?_
      rintro e w2 ⟨rfl, hb2⟩
      go_wp2_with fail
      go_ret
      exact ⟨rfl, below_up hb1 hb2⟩
  have h8' : ¬ (8 : Int) < m := by omega
  by_cases h0 : m = 0
  · subst h0
    go_enter Try.func8, Try.ntmps8
    go_wp2_with fail
    refine (light_any A _ c poly _ HQ.out.1).mono ?_
    rintro e w1 ⟨hb1, rfl | ⟨rfl, hm, hs⟩⟩
    all_goals
      go_wp2_with fail
      refine (alive_any _).mono ?_
      rintro e w2 ⟨rfl, hb2⟩
      go_wp2_with fail
      go_ret
      exact ⟨rfl, below_up hb1 hb2⟩
  have h0' : ((m : Int) == 0) = false := beq_eq_false_iff_ne.2 (by omega)
  by_cases hl : 100 < l
  · have hl' : (100 : Int) < l := by omega
    go_enter Try.func8, Try.ntmps8
    go_wp2_with fail
    refine (light_any A _ c poly _ HQ.out.1).mono ?_
    rintro e w1 ⟨hb1, rfl | ⟨rfl, hm, hs⟩⟩
    all_goals
      go_wp2_with fail
      refine (alive_any _).mono ?_
      rintro e w2 ⟨rfl, hb2⟩
      go_wp2_with fail
      go_ret
      exact ⟨rfl, below_up hb1 hb2⟩
  have hl' : ¬ (100 : Int) < l := by omega
  go_enter Try.func8, Try.ntmps8
  go_wp2_with fail
  refine (light_any A m c poly _ HQ.out.1).mono ?_
  rintro e w1 ⟨hb1, rfl | ⟨rfl, hm, hs⟩⟩
  · go_wp2_with fail
    refine (alive_any _).mono ?_
    rintro e w2 ⟨rfl, hb2⟩
    go_wp2_with fail
    go_ret
    exact ⟨rfl, below_up hb1 hb2⟩
  have HQ1 := Lib.hid ((HQ.out.light hs).later hb1)
  have HP1 := Lib.hid (HP.out.later hb1)
  clear HQ HP hs
  obtain ⟨ii, hii, him⟩ : ∃ ii : Nat, nn % m = ii ∧ ii < m := ⟨_, rfl, Nat.mod_lt _ (by omega)⟩
  have hmod1 : (nn : Int) % (m : Int) = (ii : Int) := by omega
  have hmod2 : Int.tmod (nn : Int) (m : Int) = (ii : Int) := by rw [Int.tmod_eq_emod_of_nonneg (by omega)]; exact hmod1
  clear hii
  have hnn' : (nn : Int) ≤ 255 := by omega
  have hm1 : (0 : Int) < m := by omega
  go_upto_region 4 with (fail)
  clear hmod1 hmod2 hnn'
  obtain ⟨hsp, hpc, hpn⟩ := HQ1.out.2 ii him
  obtain ⟨bq, oq, rfl, hBq⟩ := HQ1.out.1.addr (by omega)
  have f0 := HQ1.out.1.at1 him
  have HSP := Lib.hid hsp
  clear hsp
  have him' : (ii : Int) < m := by omega
  have hi0 : (0 : Int) ≤ ii := by omega
  by_cases hz : (poly ii).pn = 0
  · have hzb : (((poly ii).pn : Int) == 0) = true := beq_iff_eq.2 (by omega)
    go_wp2_with fail
    refine (alive_any _).mono ?_
    rintro e wz ⟨rfl, hbz⟩
    go_wp2_with fail
    go_ret
    exact ⟨rfl, below_up hb1 hbz⟩
  have hzb : (((poly ii).pn : Int) == 0) = false := beq_eq_false_iff_ne.2 (by omega)
  obtain ⟨i0, hi0', hz0, hz1, hz2⟩ := info_parts spots_info
  have HI0 := Lib.hid hi0'
  have HZ := Lib.hid (And.intro hz0 (And.intro hz1 hz2))
  clear hi0' hz0 hz1 hz2
  have HQr := Lib.hid (HQ1.out.1.later (below_a1 w1 (.cells #[] 38)))
  go_upto_region 7 with (at_builtin; refine wpList_append_row _ rfl _ _ _ rfl w1.heap.size 38 i0 _ 1 24 Try.underlying22 HI0.out HZ.out.1 HZ.out.2.1 HZ.out.2.2 rfl (by omega) _ 0 (fun i _ => .slice (poly i).pa (poly i).pn (poly i).pc) rfl (Owned.lit w1 #[] 0 38 1 (fun i _ => .slice (poly i).pa (poly i).pn (poly i).pc) (by simp only [maxLen]; omega) (by simp [cellsOf])) _ _ m c (fun i _ => .slice (poly i).pa (poly i).pn (poly i).pc) rfl HQr.out (fun i j _ _ => rfl) (by simp only [maxLen]; omega) (by omega) (by simp) ?_; intro vO w2 hown hgr hbk)
  rw [Nat.zero_add] at hown
  have hO := hown.congr (g := fun i _ => .slice (poly i).pa (poly i).pn (poly i).pc) (fun i j _ _ => by simp [glue])
  have hb2 : Below w1.heap.size w1 w2 := (below_a1 w1 (.cells #[] 38)).grown hgr (by simp) (fun k hk => by have : w1.heap.size = k := Option.some.inj hk; omega)
  clear hown hgr hbk HQr f0
  have HQ2 := Lib.hid (HQ1.out.later hb2)
  have HP2 := Lib.hid (HP1.out.later hb2)
  have bb2 := below_up hb1 hb2
  have bb1 := hb1
  have hw12 : w1.heap.size ≤ w2.heap.size := hb2.size
  obtain ⟨AO, cO, rfl, _, _, _⟩ := hO.form
  obtain ⟨go, cap, hv, _, _, _, _, _, _⟩ := hO.blk (by omega)
  injection hv with hv1 _ hv2
  subst hv1; subst hv2
  obtain ⟨bs, os, hpa, hBs, e0, e1⟩ := (HSP.out.later hb2).at0 (by omega)
  have f0 := HQ2.out.1.at1 him
  rw [hpa] at f0
  have hpn0 : (0 : Int) < (poly ii).pn := by omega
  have HSP2 := Lib.hid (HSP.out.later hb2)
  rw [hpa] at HSP2
  clear HSP
  obtain ⟨S, hS⟩ : ∃ S, S = (poly ii).spot 0 := ⟨_, rfl⟩
  rw [← hS] at e0 e1
  have HS0 := Lib.hid hS
  clear hS
  go_upto_region 8 with (fail)
  have k9 := Blk.new w2 37 #[.int .i64 S.x, .int .i64 S.y]
  have hb9 := below_a1 w2 (.cells #[.int .i64 S.x, .int .i64 S.y] 37)
  have HO3 := Lib.hid (hO.later hb9)
  have HQ3 := Lib.hid (HQ2.out.later hb9)
  have HP3 := Lib.hid (HP2.out.later hb9)
  have HSP3 := Lib.hid (HSP2.out.later hb9)
  have bb3 := below_up bb2 hb9
  have v3 := below_up hb2 hb9
  obtain ⟨g9, hg9⟩ : ∃ g9, g9 = w2.heap.size := ⟨_, rfl⟩
  rw [← hg9] at k9
  rw [← hg9]
  generalize hW : w2.alloc _ = W3 at k9 HO3 HQ3 HP3 HSP3 bb3 v3 ⊢
  clear hW hg9 hO HQ2 HP2 HSP2 hb9 f0 e0 e1 hb2
  have f0 := HQ3.out.1.at1 him
  rw [hpa] at f0
  go_wp2_with fail
  refine (check_any _ _ _ (poly ii).spot _ hpn hpc HSP3.out).mono ?_
  rintro e w4 ⟨rfl, hb4⟩
  have k9b := k9.later hb4
  have HO4 := Lib.hid (HO3.out.later hb4)
  have HQ4 := Lib.hid (HQ3.out.later hb4)
  have HP4 := Lib.hid (HP3.out.later hb4)
  have bb4 := below_up bb3 hb4
  have v4 := below_up v3 hb4
  clear k9 HO3 HQ3 HP3 HSP3 bb3 hb4 f0 v3
  have c0 := k9b.cell 0
  have c1 := k9b.cell 1
  simp at c0 c1
  by_cases hck : checkF (poly ii).pn (poly ii).spot = 0
  rotate_left
  · have hne : (checkF (poly ii).pn (poly ii).spot != 0) = true := bne_iff_ne.2 hck
    clear hck
    go_wp2_with fail
    refine (alive_any _).mono ?_
    rintro e wz ⟨rfl, hbz⟩
    go_wp2_with fail
    go_ret
    exact ⟨rfl, below_up bb4 hbz⟩
  rw [hck]
  have hok : S.ok := by rw [HS0.out]; exact (check_n hck).2.2 0 (by omega)
  obtain ⟨s1, s2, s3, s4⟩ := hok
  by_cases hx : 1048576 ≤ S.x
  · clear hck
    go_wp2_with fail
    refine (alive_any _).mono ?_
    rintro e wz ⟨rfl, hbz⟩
    go_wp2_with fail
    go_ret
    exact ⟨rfl, below_up bb4 hbz⟩
  by_cases hy : 1048576 ≤ S.y
  · clear hck
    go_wp2_with fail
    refine (alive_any _).mono ?_
    rintro e wz ⟨rfl, hbz⟩
    go_wp2_with fail
    go_ret
    exact ⟨rfl, below_up bb4 hbz⟩
  have HSQ := Lib.hid (square_check (x := S.x) (y := S.y) s1 (by omega) s3 (by omega))
  have HCK := Lib.hid hck
  clear hck
  go_wp2_with fail
  refine (boxown_any S.x S.y _ s1 s2 s3 s4).mono ?_
  rintro e w5 ⟨AB, rfl, oB, hb5⟩
  have hO5 := HO4.out.later hb5
  have oB5 := oB.mono v4.size
  have v5 := below_up v4 hb5
  obtain ⟨hgb, hgl, hcell, hfz⟩ := hO5.cells1
  have y0 := hcell ii him
  have z0 := hfz ii
  clear k9b c0 c1 HO4 HQ4 HP4 hb5 hcell hfz oB
  go_upto_region 11 with (fail)
  have hO6 := (hO5.put1 (k := ii) (.slice AB 4 4)).congr (g := fun j _ => .slice (replF poly ii ⟨AB, 4, 4, sqF S.x S.y⟩ j).pa (replF poly ii ⟨AB, 4, 4, sqF S.x S.y⟩ j).pn (replF poly ii ⟨AB, 4, 4, sqF S.x S.y⟩ j).pc) (fun j k hj hk => by
    unfold upd replF
    by_cases hji : j = ii
    · rw [if_pos ⟨hji, by omega⟩, if_pos hji]
    · rw [if_neg (fun h => hji h.1), if_neg hji])
  have oB6 := oB5.far (p := ⟨go, ii, none⟩) (fun e => hO5.sep oB5 (by decide) go rfl e) (.slice AB 4 4)
  have v6 := v5.setCell (p := ⟨go, ii, none⟩) hgb (.slice AB 4 4)
  have bb6 := bb1.trans (v6.mono bb1.size)
  generalize hW : World.setCell _ _ _ = W6 at hO6 oB6 v6 bb6 ⊢
  clear hW y0 z0 hO5 oB5 v5 v4
  obtain ⟨AO', cO', ev, _, _, rO⟩ := hO6.form
  injection ev with ev1 _ ev2
  have HQ6 := Lib.hid (HQ1.out.later v6)
  have HP6 := Lib.hid (HP1.out.later v6)
  have HR6 := Lib.hid (show Polys W6 W6.heap.size (some ⟨go, 0, none⟩) m (replF poly ii ⟨AB, 4, 4, sqF S.x S.y⟩) from ⟨by rw [ev1]; exact rO, fun j hj => by
    unfold replF
    by_cases hji : j = ii
    · rw [if_pos hji]
      exact ⟨owned_spots oB6, Nat.le_refl _, by show 4 ≤ 100; omega⟩
    · rw [if_neg hji]
      exact HQ6.out.2 j hj⟩)
  have hst0 : (⟨AB, 4, 4, sqF S.x S.y⟩ : Poly).spot 0 = (poly ii).spot 0 := by rw [← HS0.out]; rfl
  have HT := Lib.hid (fun (l : Nat) (ord : Nat → Int) => repl_trav (m := m) (q := ⟨AB, 4, 4, sqF S.x S.y⟩) HSQ.out HCK.out hst0 l ord)
  have HB := Lib.hid (fun (l : Nat) (ord : Nat → Int) => repl_both (m := m) (q := ⟨AB, 4, 4, sqF S.x S.y⟩) HSQ.out HCK.out l ord)
  have HC := Lib.hid (repl_chk (m := m) (q := ⟨AB, 4, 4, sqF S.x S.y⟩) HSQ.out HCK.out)
  have HSS := Lib.hid (repl_starts (q := ⟨AB, 4, 4, sqF S.x S.y⟩) hst0)
  generalize replF poly ii ⟨AB, 4, 4, sqF S.x S.y⟩ = pol2 at *
  clear hO6 oB6 v6 rO ev1 ev2 hst0 HSQ HCK HS0
  go_wp2_with fail
  refine (Travel_any _ _ m _ l _ poly ord _ (by omega) HQ6.out HP6.out).mono ?_
  rintro e w7 ⟨rfl, hb7⟩
  have HQ7 := Lib.hid (HQ6.out.later hb7)
  have HP7 := Lib.hid (HP6.out.later hb7)
  have HR7 := Lib.hid (HR6.out.later hb7)
  have bb7 := below_up bb6 hb7
  clear HQ6 HP6 HR6 bb6 hb7
  go_wp2_with fail
  refine (Travel_any _ _ m _ l _ pol2 ord _ (by omega) HR7.out HP7.out).mono ?_
  rintro e w8 ⟨rfl, hb8⟩
  rw [HT.out, HB.out]
  have HQ8 := Lib.hid (HQ7.out.later hb8)
  have HP8 := Lib.hid (HP7.out.later hb8)
  have HR8 := Lib.hid (HR7.out.later hb8)
  have bb8 := below_up bb7 hb8
  clear HQ7 HP7 HR7 bb7 hb8
  have hlenG := list_len (chkErr m poly) m (by omega)
  have hlenI := list_len (bothErr m poly l ord) l (by omega)
  go_wp2_with fail
  refine (Greedy_any _ m _ poly _ HQ8.out).mono ?_
  intro e w9 hpost
  obtain ⟨hb9, AG, cG, rfl, rG⟩ := hpost.list
  have HQ9 := Lib.hid (HQ8.out.later hb9)
  have HP9 := Lib.hid (HP8.out.later hb9)
  have HR9 := Lib.hid (HR8.out.later hb9)
  have RG := Lib.hid rG
  have bb9 := below_up bb8 hb9
  clear HQ8 HP8 HR8 bb8 hb9 hpost rG
  go_wp2_with fail
  refine (Greedy_any _ m _ pol2 _ HR9.out).mono ?_
  intro e w10 hpost
  obtain ⟨hb10, AH, cH, rfl, rH⟩ := hpost.list
  rw [HC.out, HSS.out] at rH
  rw [HC.out]
  have HQ10 := Lib.hid (HQ9.out.later hb10)
  have HP10 := Lib.hid (HP9.out.later hb10)
  have HR10 := Lib.hid (HR9.out.later hb10)
  have RG10 := Lib.hid (RG.out.later hb10)
  have RH := Lib.hid rH
  have bb10 := below_up bb9 hb10
  clear HQ9 HP9 HR9 RG bb9 hb10 hpost rH
  go_wp2_with fail
  refine (Improve_any _ _ m _ l _ poly ord _ (by omega) HQ10.out HP10.out).mono ?_
  intro e w11 hpost
  obtain ⟨hb11, AI, cI, rfl, rI⟩ := hpost.list
  have HP11 := Lib.hid (HP10.out.later hb11)
  have HR11 := Lib.hid (HR10.out.later hb11)
  have RG11 := Lib.hid (RG10.out.later hb11)
  have RH11 := Lib.hid (RH.out.later hb11)
  have RI := Lib.hid rI
  have bb11 := below_up bb10 hb11
  clear HQ10 HP10 HR10 RG10 RH bb10 hb11 hpost rI
  go_wp2_with fail
  refine (Improve_any _ _ m _ l _ pol2 ord _ (by omega) HR11.out HP11.out).mono ?_
  intro e w12 hpost
  obtain ⟨hb12, AJ, cJ, rfl, rJ⟩ := hpost.list
  rw [HB.out, HSS.out] at rJ
  rw [HB.out]
  have RG12 := Lib.hid (RG11.out.later hb12)
  have RH12 := Lib.hid (RH11.out.later hb12)
  have RI12 := Lib.hid (RI.out.later hb12)
  have RJ := Lib.hid rJ
  have bb12 := below_up bb11 hb12
  clear HP11 HR11 RG11 RH11 RI bb11 hb12 hpost rJ HT HB HC HSS
  generalize travV m poly l ord = y0 at *
  generalize lenF (chkErr m poly) m = nG at *
  generalize lenF (bothErr m poly l ord) l = nI at *
  generalize chkErr m poly = y1 at *
  generalize bothErr m poly l ord = y2 at *
  have hy0 : (y0 == y0) = true := by simp
  have hy1 : (y1 == y1) = true := by simp
  have hy2 : (y2 == y2) = true := by simp
  go_wp2_with fail
  refine (sameInts_any _ _ nG nG _ _ _ _ _ hlenG hlenG RG12.out RH12.out).mono ?_
  rintro e w13 ⟨rfl, hb13⟩
  rw [same_ints_self]
  have RI13 := Lib.hid (RI12.out.later hb13)
  have RJ13 := Lib.hid (RJ.out.later hb13)
  have bb13 := below_up bb12 hb13
  clear RG12 RH12 RI12 RJ bb12 hb13
  go_wp2_with fail
  refine (sameInts_any _ _ nI nI _ _ _ _ _ hlenI hlenI RI13.out RJ13.out).mono ?_
  rintro e w14 ⟨rfl, hb14⟩
  rw [same_ints_self]
  have bb14 := below_up bb13 hb14
  go_wp2_with fail
  refine (alive_any _).mono ?_
  rintro e wz ⟨rfl, hbz⟩
  go_wp2_with fail
  go_ret
  exact ⟨rfl, below_up bb14 hbz⟩

end Go.Proofs.Ytpjckolfjaffjaa
