/- lay. -/
import Derived.Test.YtkdpkaidbmjcaaaLayG
import Derived.StillTailTactics
namespace Go.Proofs.Ytkdpkaidbmjcaaa
open Go.RowKit
set_option linter.unusedSimpArgs false
set_option linter.unusedVariables false

theorem wrap_in {n : Int} (h1 : -1000000000000 ≤ n) (h2 : n ≤ 1000000000000) : IntKind.i64.wrap n = n := IntWalk.i64_in _ (by omega)

theorem diff_bd {a b c k : Int} (ha : 0 ≤ a) (ha1 : a ≤ 40) (hb : 0 ≤ b) (hb1 : b ≤ 40) (hc : 0 ≤ c) (hk : c ≤ k) : -(40 * k) ≤ (a - b) * c ∧ (a - b) * c ≤ 40 * k := by
  obtain ⟨h1, h2⟩ := mul_bd ha ha1 hc hk
  obtain ⟨h3, h4⟩ := mul_bd hb hb1 hc hk
  rw [Int.sub_mul]
  omega

/-- What is in 'made' behind t sizes of lay. -/
def layF (md : Nat → Int) (more : Int) (cnt : Nat → Int) (t s : Nat) : Int := md s + if s < t then more * cnt s else 0

theorem lay_none (md : Nat → Int) (more : Int) (cnt : Nat → Int) {t s : Nat} (h : ¬ s < t) : layF md more cnt t s = md s := by
  unfold layF
  rw [if_neg h]
  omega
theorem lay_some (md : Nat → Int) (more : Int) (cnt : Nat → Int) {t s : Nat} (h : s < t) : layF md more cnt t s = md s + more * cnt s := by
  unfold layF
  rw [if_pos h]

theorem lay_upd (md : Nat → Int) (more : Int) (cnt : Nat → Int) (t s : Nat) : layF md more cnt (t + 1) s = setF (layF md more cnt t) t (md t + more * cnt t) s := by
  unfold layF setF
  by_cases h : s = t
  · subst h
    rw [if_pos rfl, if_pos (by omega)]
  · rw [if_neg h]
    show (md s + if s < t + 1 then more * cnt s else 0) = md s + if s < t then more * cnt s else 0
    by_cases h2 : s < t
    · rw [if_pos h2, if_pos (by omega)]
    · rw [if_neg h2, if_neg (by omega)]

set_option maxHeartbeats 3200000 in
theorem lay_any (E : FEnv) (ok : E.Ok) (w : World) (p : Plan) (bv : Value) (ls : Int) (fd : Bool) (i : Nat) (v : Int) (hi : i < E.m) (hp : ∀ j, j < E.m → 0 ≤ p j ∧ p j ≤ 40) (hv0 : 0 ≤ v) (hv1 : v ≤ 40) (h : Fin E w p bv ls fd) :
    Calls Try.prog 38 #[.pointer (some ⟨E.F, 0, none⟩), .int .i64 i, .int .i64 v] w fun e w' => e = .returned (.tuple #[]) ∧ Fin E w' (setP p i v) bv ls fd ∧ But E.X w w' := by
  have HO := Lib.hid ok
  have HP := Lib.hid hp
  have HG := Lib.hid ok.good
  have HSZ := Lib.hid ok.sizes
  have hFp := ok.Fp
  have hFm := ok.Fm
  have hpm := ok.pm
  have hm6 := ok.good.m6
  have hs12 := ok.good.s12
  rw [← ok.sizes] at hs12
  obtain ⟨hp0, hp1⟩ := hp i hi
  obtain ⟨l1, l2⟩ := ok.good.len i hi
  obtain ⟨c1, c2⟩ := cost_bd ok.good hp E.m (Nat.le_refl _) (Nat.le_refl _)
  obtain ⟨d1, d2⟩ := diff_bd hv0 hv1 hp0 hp1 (by omega : 0 ≤ (E.mx i).len) l2
  have HC := Lib.hid (cost_setP (lenM E.mx) p v hi)
  have HM := Lib.hid (fun s => made_setP (cntM E.mx) p v s hi)
  have HMB := Lib.hid (fun s (hs : s < E.S) => made_bd ok.good hp (s := s) (by rw [← ok.sizes]; exact hs) E.m (Nat.le_refl _) (Nat.le_refl _))
  clear hp ok
  unfold Fin at h ⊢
  generalize hT : costF (lenM E.mx) p E.m = T at *
  clear hT
  have hi0 : (0 : Int) ≤ i := by omega
  have him : (i : Int) < E.m := by omega
  have wz1 : IntKind.i64.wrap ((v - p i) * (E.mx i).len) = (v - p i) * (E.mx i).len := wrap_in (by omega) (by omega)
  have wz2 : IntKind.i64.wrap (T + (v - p i) * (E.mx i).len) = T + (v - p i) * (E.mx i).len := wrap_in (by omega) (by omega)
  obtain ⟨-, f1, -, -, f4, f5, f6, -, -, -, -, -, ffz⟩ := h.fields
  obtain ⟨a0, z0⟩ := h.ply hi
  go_enter Try.func38, Try.ntmps38
  go_upto_region 2 with (fail)
  obtain ⟨h1, b1⟩ := h.putP HO.out i v
  generalize hW : World.setCell _ _ _ = W at h1 b1 ⊢
  clear hW h f1 f4 f5 f6 ffz a0 z0
  obtain ⟨-, f1, -, -, f4, f5, f6, -, -, -, -, -, ffz⟩ := h1.fields
  obtain ⟨bm, om, hA, hNm, e0, e1⟩ := h1.fix.mix hi
  rw [hA] at f1
  have z6 := ffz 6
  clear ffz
  go_still_tail 17, (by kernel_rfl)
  go_upto_region 3 with (fail)
  obtain ⟨h2, b2⟩ := h1.putF (cost' := T + (v - p i) * (E.mx i).len) HO.out 6 (.int .i64 (T + (v - p i) * (E.mx i).len)) rfl
  have h3 := h2.drew HO.out
  have b3 := (b1.trans b2).drew
  generalize hW : World.drew _ = W2 at h3 b3 ⊢
  clear hW h1 h2 b1 b2 f1 f4 f5 f6 z6 e0 e1 wz1 wz2
  obtain ⟨-, f1, -, -, -, -, -, -, -, -, -, -, -⟩ := h3.fields
  obtain ⟨bm', om', hA', hNm', e0, e1⟩ := h3.fix.mix hi
  rw [hA'] at f1
  have h4 := h3.congr (p' := setF p i v) (md' := layF (fun s => madeF (cntM E.mx) p s E.m) (v - p i) (E.mx i).cnt 0) (cost' := T + (v - p i) * (E.mx i).len) (fun _ _ => rfl) (fun s _ => (lay_none (fun s => madeF (cntM E.mx) p s E.m) _ _ (by omega)).symm) rfl
  have HCN := Lib.hid (HG.out.cn i hi)
  rw [← HSZ.out] at HCN
  clear h3 hA hA'
  go_wp2_with fail
  clear f1 e0 e1
  rw [HCN.out]
  generalize hmore : v - p i = more at *
  go_loopw [51] (fun t wr => ∃ k : Nat, k ≤ E.S ∧ t = .int .i64 k ∧ Fin0 E wr (setF p i v) (layF (fun s => madeF (cntM E.mx) p s E.m) more (E.mx i).cnt k) (T + more * (E.mx i).len) bv ls fd ∧ But E.X w wr) (fun t _ => E.S - (intOf t).toNat)
  case atStart => exact ⟨0, Nat.zero_le _, rfl, h4, b3⟩
  case round =>
    clear h4 b3
    obtain ⟨k, hk, rfl, hf, hwr⟩ := hrel
    by_cases hlt : k < E.S
    · obtain ⟨-, -, -, -, -, f5, -, -, -, -, -, -, -⟩ := hf.fields
      obtain ⟨a0, z0⟩ := hf.mad hlt
      obtain ⟨bc, oc, hC, hNc, g0⟩ := hf.fix.count hi (by rw [HCN.out]; exact hlt)
      rw [hC]
      have HL := Lib.hid (lay_upd (fun s => madeF (cntM E.mx) p s E.m) more (E.mx i).cnt k)
      have HX := Lib.hid (show layF (fun s => madeF (cntM E.mx) p s E.m) more (E.mx i).cnt k k = madeF (cntM E.mx) p k E.m from lay_none _ _ _ (by omega))
      rw [HX.out] at a0
      obtain ⟨m1, m2⟩ := HMB.out k hlt
      obtain ⟨n1, n2⟩ := HG.out.cnt i k hi (by rw [← HSZ.out]; exact hlt)
      obtain ⟨q1, q2⟩ := diff_bd hv0 hv1 hp0 hp1 n1 n2
      rw [hmore] at q1 q2
      have HT := Lib.hid (rfl : madeF (cntM E.mx) p k E.m = madeF (cntM E.mx) p k E.m)
      generalize hM : madeF (cntM E.mx) p k E.m = M at a0 m1 m2 HX HT
      have HM2 := Lib.hid hM
      have wz1 : IntKind.i64.wrap (more * (E.mx i).cnt k) = more * (E.mx i).cnt k := wrap_in (by omega) (by omega)
      have wz2 : IntKind.i64.wrap (M + more * (E.mx i).cnt k) = M + more * (E.mx i).cnt k := wrap_in (by omega) (by omega)
      have hlt' : (k : Int) < E.S := by omega
      have hk0 : (0 : Int) ≤ k := by omega
      clear hC hmore hM
      go_upto_region 7 with (fail)
      obtain ⟨h5, b5⟩ := hf.putM HO.out k (M + more * (E.mx i).cnt k)
      have b6 := hwr.trans b5
      generalize hW : World.setCell _ _ _ = W5 at h5 b6 b5 ⊢
      clear hW hf hwr b5 a0 z0 g0 f5 wz1 wz2
      have h6 := h5.congr (p' := setF p i v) (md' := layF (fun s => madeF (cntM E.mx) p s E.m) more (E.mx i).cnt (k + 1)) (cost' := T + more * (E.mx i).len) (fun _ _ => rfl) (fun s _ => by rw [HL.out, HM2.out]) rfl
      clear h5
      go_wp2_with fail
      go_roundw
      case rel => exact ⟨k + 1, by omega, by go_num, h6, b6⟩
      case measure => simp [intOf]; omega
    · obtain rfl : k = E.S := by omega
      have h7 := hf.congr (p' := setP p i v) (md' := fun s => madeF (cntM E.mx) (setP p i v) s E.m) (cost' := costF (lenM E.mx) (setP p i v) E.m) (fun _ _ => rfl) (fun s hs => by rw [HM.out]; exact lay_some _ _ _ hs) (by rw [HC.out])
      clear hf
      go_wp2_with fail
      go_end0
      exact ⟨rfl, h7, hwr⟩

end Go.Proofs.Ytkdpkaidbmjcaaa
