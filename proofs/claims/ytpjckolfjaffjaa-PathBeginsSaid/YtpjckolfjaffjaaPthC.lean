/- Travel of both. -/
import Derived.Test.YtpjckolfjaffjaaPthB
namespace Go.Proofs.Ytpjckolfjaffjaa
open Go.RowKit
set_option linter.unusedSimpArgs false
set_option linter.unusedVariables false

theorem start_ok {m : Nat} {poly : Nat → Poly} (h : ∀ i, i < m → checkF (poly i).pn (poly i).spot = 0) : ∀ i, i < m → (startF poly i).ok := fun i hi => by
  obtain ⟨h3, _, hok⟩ := check_n (h i hi)
  exact hok 0 (by omega)

theorem knife_ok {s : Nat → Spot} {ord : Nat → Int} {m l : Nat} (hs : ∀ i, i < m → (s i).ok) (ho : ∀ i, i < l → 0 ≤ ord i ∧ ord i < m) : ∀ k, k ≤ l → (knifeF s ord k).ok := by
  intro k hk
  match k with
  | 0 => exact spot0_ok
  | k + 1 => exact hs _ (by have := ho k (by omega); omega)

theorem travel_bd {s : Nat → Spot} {ord : Nat → Int} {m l : Nat} (hs : ∀ i, i < m → (s i).ok) (ho : ∀ i, i < l → 0 ≤ ord i ∧ ord i < m) : ∀ k, k ≤ l → 0 ≤ travelF s ord k ∧ travelF s ord k ≤ (k : Int) * 4194304 := by
  intro k
  induction k with
  | zero => intro _; exact ⟨Int.le_refl _, by simp [travelF]⟩
  | succ k ih =>
    intro hk
    have h1 := ih (by omega)
    have h2 := dist_bd (knife_ok hs ho k (by omega)) (hs (ord k).toNat (by have := ho k (by omega); omega))
    have e : travelF s ord (k + 1) = travelF s ord k + distF (knifeF s ord k) (s (ord k).toNat) := rfl
    rw [e]
    omega

def travV (m : Nat) (poly : Nat → Poly) (l : Nat) (ord : Nat → Int) : Int := if bothErr m poly l ord = 0 then travelF (startF poly) ord l else 0

def TravelPost (w : World) (m : Nat) (poly : Nat → Poly) (l : Nat) (ord : Nat → Int) (e : Ending) (w' : World) : Prop :=
  e = .returned (.tuple #[.int .i64 (travV m poly l ord), .int .i64 (bothErr m poly l ord)]) ∧ Below w.heap.size w w'

theorem travel_fail {w w' : World} {m : Nat} {poly : Nat → Poly} {l : Nat} {ord : Nat → Int} {x : Int} (he : bothErr m poly l ord = x) (h0 : x ≠ 0) (hb : Below w.heap.size w w') :
    TravelPost w m poly l ord (.returned (.tuple #[.int .i64 0, .int .i64 x])) w' := ⟨by unfold travV; rw [he, if_neg h0], hb⟩
theorem travel_good {w w' : World} {m : Nat} {poly : Nat → Poly} {l : Nat} {ord : Nat → Int} (he : bothErr m poly l ord = 0) (hb : Below w.heap.size w w') :
    TravelPost w m poly l ord (.returned (.tuple #[.int .i64 (travelF (startF poly) ord l), .int .i64 0])) w' := ⟨by unfold travV; rw [he, if_pos rfl], hb⟩

set_option maxRecDepth 100000 in
set_option maxHeartbeats 1600000 in
theorem Travel_any (A A2 : Option Addr) (m c l c2 : Nat) (poly : Nat → Poly) (ord : Nat → Int) (w : World) (hl : l ≤ 1000) (hq : Polys w w.heap.size A m poly) (hp : Row w w.heap.size 1 A2 l (fun i _ => .int .i64 (ord i))) :
    Calls Try.prog 12 #[.slice A m c, .slice A2 l c2] w (TravelPost w m poly l ord) := by
  have HP := Lib.hid hp
  go_enter Try.func12, Try.ntmps12
  go_wp2_with fail
  refine (checked_any A A2 m c l c2 poly ord _ hl hq hp).mono ?_
  clear hq hp
  rintro e w1 ⟨hb1, ⟨hE, v, rfl, hN⟩ | ⟨hE, rfl⟩⟩
  rotate_left
  · have HE := Lib.hid hE
    have hne : (bothErr m poly l ord != 0) = true := bne_iff_ne.2 hE
    clear hE
    go_wp2_with fail
    go_ret2
    exact travel_fail rfl HE.out hb1
  have HE := Lib.hid hE
  obtain ⟨hchk, rfl, hord⟩ := both_zero hE
  have HST := Lib.hid (start_ok (chk_valid hchk).2)
  have HOR := Lib.hid (fun i hi => (hord i hi).1)
  have hl60 := (chk_valid hchk).1
  clear hE hchk hord
  obtain ⟨AN, cN, rfl, _, _, rN⟩ := hN.form
  have HP1 := Lib.hid (HP.out.later hb1)
  clear HP hN
  go_upto_region 5 with (fail)
  have k8 := Blk.new w1 37 #[.int .i64 (knifeF (startF poly) ord 0).x, .int .i64 (knifeF (startF poly) ord 0).y]
  have hW0 := below_a1 w1 (.cells #[.int .i64 0, .int .i64 0] 37)
  have HNg := Lib.hid (rN.keep hW0)
  have HPg := Lib.hid (HP1.out.keep hW0)
  have hbw := below_up hb1 hW0
  obtain ⟨g, hg⟩ : ∃ g, g = w1.heap.size := ⟨_, rfl⟩
  have hgw : w.heap.size ≤ g := by have := hb1.size; omega
  rw [← hg] at k8 HNg HPg
  rw [← hg]
  change Blk (w1.alloc (.cells #[.int .i64 0, .int .i64 0] 37)) _ _ _ at k8
  generalize hW : w1.alloc _ = W at k8 HNg HPg hbw ⊢
  clear hW hg rN HP1 hW0 hb1
  go_wp2_with fail
  go_loopw [9, 23] (fun s t wr => ∃ k : Nat, k ≤ l ∧ t = .int .i64 k ∧ s = .int .i64 (travelF (startF poly) ord k) ∧ Blk wr g 37 #[.int .i64 (knifeF (startF poly) ord k).x, .int .i64 (knifeF (startF poly) ord k).y] ∧ Below g W wr) (fun _ t _ => l - (intOf t).toNat)
  case atStart => exact ⟨0, Nat.zero_le _, rfl, rfl, k8, Below.refl _ _⟩
  case round =>
    obtain ⟨k, hk, rfl, rfl, kB, hwr⟩ := hrel
    clear k8
    have hgl := kB.lt
    by_cases hlt : k < l
    · obtain ⟨bo, oo, rfl, hBo⟩ := HPg.out.addr (by omega)
      obtain ⟨bs, os, rfl, hBs⟩ := HNg.out.addr (by omega)
      obtain ⟨o1, o2⟩ := HOR.out k hlt
      obtain ⟨x, hx⟩ := Int.eq_ofNat_of_zero_le o1
      have hxl : x < l := by omega
      have f0 := (hwr.cell (p := ⟨_, _, none⟩) hBo).trans (HPg.out.at1 hlt)
      rw [hx] at f0
      obtain ⟨e0, e1⟩ := HNg.out.at2 hxl
      simp only [spotC] at e0 e1
      have y0 := (hwr.cell (p := ⟨_, _, none⟩) hBs).trans e0
      have y1 := (hwr.cell (p := ⟨_, _, none⟩) hBs).trans e1
      have okK := Lib.hid (knife_ok HST.out HOR.out k hk)
      have okP := Lib.hid (HST.out x hxl)
      obtain ⟨t1, t2⟩ := travel_bd HST.out HOR.out k hk
      obtain ⟨t3, t4⟩ := dist_bd okK.out okP.out
      have HT := Lib.hid (show travelF (startF poly) ord (k + 1) = travelF (startF poly) ord k + distF (knifeF (startF poly) ord k) (startF poly x) by
        show travelF (startF poly) ord k + distF (knifeF (startF poly) ord k) (startF poly (ord k).toNat) = _
        rw [hx]; rfl)
      have HK := Lib.hid (show knifeF (startF poly) ord (k + 1) = startF poly x by show startF poly (ord k).toNat = _; rw [hx]; rfl)
      have x0 := fun z : Ext wr.heap.size wr => z.cell (b := g) hgl (kB.cell 0)
      have x1 := fun z : Ext wr.heap.size wr => z.cell (b := g) hgl (kB.cell 1)
      have x2 := fun z : Ext wr.heap.size wr => z.cell (b := bs) (by omega) y0
      have x3 := fun z : Ext wr.heap.size wr => z.cell (b := bs) (by omega) y1
      simp at x0 x1
      clear o1 o2 hx e0 e1
      generalize travelF (startF poly) ord k = T at *
      generalize knifeF (startF poly) ord k = K at *
      generalize startF poly x = P at *
      have hlt' : (k : Int) < l := by omega
      have hk0 : (0 : Int) ≤ k := by omega
      have hxl' : (x : Int) < l := by omega
      have hx0 : (0 : Int) ≤ x := by omega
      have hw0 : IntKind.i64.wrap (T + distF K P) = T + distF K P := wrap_cast (by omega) (by omega)
      go_upto_region 9 with (fail)
      refine region_ext wr.heap.size (by kernel_rfl) (by kernel_rfl) ?_
      repeat (go_big_quiet_step (first | (go_at_call 26; exact calls_ext (by omega) (distance_any K P _ okK.out okP.out))))
      refine wpQuiet_nil ?_
      rintro _ ⟨z, rfl⟩
      obtain ⟨wq, hq⟩ := z
      dsimp only
      have hwq := hwr.trans (hq.mono (Nat.le_of_lt hgl))
      have kB2 := kB.later hq
      have q0 := (hq.cell (p := ⟨bs, _, none⟩) (by simp only []; omega)).trans y0
      have q1 := (hq.cell (p := ⟨bs, _, none⟩) (by simp only []; omega)).trans y1
      have z0 := kB2.free 0
      have z1 := kB2.free 1
      have c0 := kB2.cell 0
      have c1 := kB2.cell 1
      simp at c0 c1
      clear x0 x1 x2 x3 y0 y1 f0 kB hq
      go_wp2_with fail
      have kB3 := put2 kB2 (.int .i64 P.x) (.int .i64 P.y)
      have hw3 := below_put2 hwq (Nat.le_refl _) (.int .i64 P.x) (.int .i64 P.y)
      generalize hW : World.setCell _ _ _ = W3 at kB3 hw3 ⊢
      clear hW q0 q1 z0 z1 c0 c1 hw0
      go_roundw
      case rel => exact ⟨k + 1, by omega, by go_num, by rw [HT.out], by rw [HK.out]; exact kB3, hw3⟩
      case measure => simp [intOf]; omega
    · obtain rfl : k = l := by omega
      go_wp2_with fail
      go_ret2
      exact travel_good HE.out (hbw.trans (hwr.mono hgw))

set_option maxRecDepth 100000 in
set_option maxHeartbeats 1600000 in
/-- The way along valid polygons. -/
theorem rtravel_any (A A2 : Option Addr) (m c l c2 : Nat) (poly : Nat → Poly) (ord : Nat → Int) (w : World) (hl : l ≤ 60) (hm : m ≤ 60) (hq : Polys w w.heap.size A m poly) (hv : ∀ i, i < m → checkF (poly i).pn (poly i).spot = 0)
    (hp : Row w w.heap.size 1 A2 l (fun i _ => .int .i64 (ord i))) (ho : ∀ i, i < l → 0 ≤ ord i ∧ ord i < m) :
    Calls Try.prog 28 #[.slice A m c, .slice A2 l c2] w fun e w' => e = .returned (.int .i64 (travelF (startF poly) ord l)) ∧ Below w.heap.size w w' := by
  have HST := Lib.hid (start_ok hv)
  have HV := Lib.hid hv
  have HOR := Lib.hid ho
  have HP := Lib.hid hp
  have HQ := Lib.hid hq
  clear hv ho hp hq
  go_enter Try.func28, Try.ntmps28
  go_upto_region 2 with (fail)
  have k8 := Blk.new w 37 #[.int .i64 (knifeF (startF poly) ord 0).x, .int .i64 (knifeF (startF poly) ord 0).y]
  have hW0 := below_a1 w (.cells #[.int .i64 0, .int .i64 0] 37)
  have HQg := Lib.hid (show Row (w.alloc (.cells #[.int .i64 0, .int .i64 0] 37)) w.heap.size 1 A m (fun i _ => .slice (poly i).pa (poly i).pn (poly i).pc) from HQ.out.1.keep hW0)
  have HSg := Lib.hid (fun i hi => (HQ.out.2 i hi).1.keep hW0)
  have HPg := Lib.hid (HP.out.keep hW0)
  obtain ⟨g, hg⟩ : ∃ g, g = w.heap.size := ⟨_, rfl⟩
  rw [← hg] at k8 HQg HSg HPg
  rw [← hg]
  change Blk (w.alloc (.cells #[.int .i64 0, .int .i64 0] 37)) _ _ _ at k8
  rw [← hg] at hW0
  have HG := Lib.hid hg.symm
  generalize hW : w.alloc _ = W at k8 HQg HSg HPg hW0 ⊢
  clear hW hg HP
  go_wp2_with fail
  go_loopw [6, 7] (fun s t wr => ∃ k : Nat, k ≤ l ∧ t = .int .i64 k ∧ s = .int .i64 (travelF (startF poly) ord k) ∧ Blk wr g 37 #[.int .i64 (knifeF (startF poly) ord k).x, .int .i64 (knifeF (startF poly) ord k).y] ∧ Below g W wr) (fun _ t _ => l - (intOf t).toNat)
  case atStart => exact ⟨0, Nat.zero_le _, rfl, rfl, k8, Below.refl _ _⟩
  case round =>
    obtain ⟨k, hk, rfl, rfl, kB, hwr⟩ := hrel
    clear k8
    have hgl := kB.lt
    by_cases hlt : k < l
    · obtain ⟨bo, oo, rfl, hBo⟩ := HPg.out.addr (by omega)
      obtain ⟨o1, o2⟩ := HOR.out k hlt
      obtain ⟨x, hx⟩ := Int.eq_ofNat_of_zero_le o1
      have hxl : x < m := by omega
      obtain ⟨bq, oq, rfl, hBq⟩ := HQg.out.addr (by omega)
      have f0 := (hwr.cell (p := ⟨_, _, none⟩) hBo).trans (HPg.out.at1 hlt)
      rw [hx] at f0
      have f1 := (hwr.cell (p := ⟨_, _, none⟩) hBq).trans (HQg.out.at1 hxl)
      have hn3 := (check_n (HV.out x hxl)).1
      obtain ⟨bs, os, hpa, hBs, e0, e1⟩ := (HSg.out x hxl).at0 (by omega)
      rw [hpa] at f1
      have y0 := (hwr.cell (p := ⟨_, _, none⟩) hBs).trans e0
      have y1 := (hwr.cell (p := ⟨_, _, none⟩) hBs).trans e1
      have okK := Lib.hid (knife_ok HST.out HOR.out k hk)
      have okP := Lib.hid (HST.out x hxl)
      obtain ⟨t1, t2⟩ := travel_bd HST.out HOR.out k hk
      obtain ⟨t3, t4⟩ := dist_bd okK.out okP.out
      have HT := Lib.hid (show travelF (startF poly) ord (k + 1) = travelF (startF poly) ord k + distF (knifeF (startF poly) ord k) (startF poly x) by
        show travelF (startF poly) ord k + distF (knifeF (startF poly) ord k) (startF poly (ord k).toNat) = _
        rw [hx]; rfl)
      have HK := Lib.hid (show knifeF (startF poly) ord (k + 1) = startF poly x by show startF poly (ord k).toNat = _; rw [hx]; rfl)
      change wr.cell? _ = some (.int .i64 (startF poly x).x) at y0
      change wr.cell? _ = some (.int .i64 (startF poly x).y) at y1
      have x0 := fun z : Ext wr.heap.size wr => z.cell (b := g) hgl (kB.cell 0)
      have x1 := fun z : Ext wr.heap.size wr => z.cell (b := g) hgl (kB.cell 1)
      have x2 := fun z : Ext wr.heap.size wr => z.cell (b := bs) (by omega) y0
      have x3 := fun z : Ext wr.heap.size wr => z.cell (b := bs) (by omega) y1
      have x4 := fun z : Ext wr.heap.size wr => z.cell (b := bo) (by omega) f0
      have x5 := fun z : Ext wr.heap.size wr => z.cell (b := bq) (by omega) f1
      simp at x0 x1
      clear o1 o2 hx e0 e1 hpa
      generalize travelF (startF poly) ord k = T at *
      generalize knifeF (startF poly) ord k = K at *
      generalize startF poly x = P at *
      have hlt' : (k : Int) < l := by omega
      have hk0 : (0 : Int) ≤ k := by omega
      have hxl' : (x : Int) < m := by omega
      have hx0 : (0 : Int) ≤ x := by omega
      have hn3' : (0 : Int) < (poly x).pn := by omega
      have hn3'' : 0 < (poly x).pn := by omega
      have hw0 : IntKind.i64.wrap (T + distF K P) = T + distF K P := wrap_cast (by omega) (by omega)
      go_upto_region 6 with (fail)
      refine region_ext wr.heap.size (by kernel_rfl) (by kernel_rfl) ?_
      repeat (go_big_quiet_step (first | (go_at_call 21; exact calls_ext (by omega) (rdistance_any K P _ okK.out okP.out))))
      refine wpQuiet_nil ?_
      rintro _ ⟨z, rfl⟩
      obtain ⟨wq, hq⟩ := z
      dsimp only
      have hwq := hwr.trans (hq.mono (Nat.le_of_lt hgl))
      have kB2 := kB.later hq
      have q0 := (hq.cell (p := ⟨bs, _, none⟩) (by simp only []; omega)).trans y0
      have q1 := (hq.cell (p := ⟨bs, _, none⟩) (by simp only []; omega)).trans y1
      have q2 := (hq.cell (p := ⟨bo, _, none⟩) (by simp only []; omega)).trans f0
      have q3 := (hq.cell (p := ⟨bq, _, none⟩) (by simp only []; omega)).trans f1
      have z0 := kB2.free 0
      have z1 := kB2.free 1
      have c0 := kB2.cell 0
      have c1 := kB2.cell 1
      simp at c0 c1
      clear x0 x1 x2 x3 x4 x5 y0 y1 f0 f1 kB hq
      go_wp2_with fail
      have kB3 := put2 kB2 (.int .i64 P.x) (.int .i64 P.y)
      have hw3 := below_put2 hwq (Nat.le_refl _) (.int .i64 P.x) (.int .i64 P.y)
      generalize hW : World.setCell _ _ _ = W3 at kB3 hw3 ⊢
      clear hW q0 q1 q2 q3 z0 z1 c0 c1 hw0
      go_roundw
      case rel => exact ⟨k + 1, by omega, by go_num, by rw [HT.out], by rw [HK.out]; exact kB3, hw3⟩
      case measure => simp [intOf]; omega
    · obtain rfl : k = l := by omega
      go_wp2_with fail
      go_ret
      exact ⟨rfl, by rw [HG.out]; exact hW0.trans hwr⟩

set_option maxHeartbeats 800000 in
theorem rTravel_any (A A2 : Option Addr) (m c l c2 : Nat) (poly : Nat → Poly) (ord : Nat → Int) (w : World) (hl : l ≤ 1000) (hq : Polys w w.heap.size A m poly) (hp : Row w w.heap.size 1 A2 l (fun i _ => .int .i64 (ord i))) :
    Calls Try.prog 13 #[.slice A m c, .slice A2 l c2] w (TravelPost w m poly l ord) := by
  have HP := Lib.hid hp
  have HQ := Lib.hid hq
  clear hp hq
  go_enter Try.func13, Try.ntmps13
  go_wp2_with fail
  refine (rboth_any A A2 m c l c2 poly ord _ hl HQ.out HP.out).mono ?_
  rintro e w1 ⟨rfl, hb1⟩
  by_cases hE : bothErr m poly l ord = 0
  rotate_left
  · have HE := Lib.hid hE
    have hne : (bothErr m poly l ord != 0) = true := bne_iff_ne.2 hE
    clear hE
    go_wp2_with fail
    go_ret2
    exact travel_fail rfl HE.out hb1
  have HE := Lib.hid hE
  obtain ⟨hchk, rfl, hord⟩ := both_zero hE
  have HV := Lib.hid (chk_valid hchk)
  have HOR := Lib.hid (fun i hi => (hord i hi).1)
  rw [hE]
  clear hE hchk hord
  go_wp2_with fail
  refine (rtravel_any A A2 l c l c2 poly ord _ HV.out.1 HV.out.1 (HQ.out.later hb1) HV.out.2 (HP.out.later hb1) HOR.out).mono ?_
  rintro e w2 ⟨rfl, hb2⟩
  go_wp2_with fail
  go_ret2
  exact travel_good HE.out (below_up hb1 hb2)

end Go.Proofs.Ytpjckolfjaffjaa
