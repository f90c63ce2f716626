/- run: the ascent. -/
import Derived.Test.YtkdpkaidbmjcaaaLayL
import Derived.Test.YtkdpkaidbmjcaaaLayJump
namespace Go.Proofs.Ytkdpkaidbmjcaaa
open Go.RowKit
set_option linter.unusedSimpArgs false
set_option linter.unusedVariables false

/-- The best plan in memory. -/
def BestAt (E : FEnv) (gh : Nat) (w : World) (b : Option Plan) (bv : Value) (ls : Int) (fd : Bool) : Prop := match b with
  | none => fd = false
  | some r => fd = true ∧ ls = E.cost r ∧ Owned w (gh + 1) 3 1 bv E.m (fun i _ => .int .i64 (r i))

/-- The search in memory. -/
structure Mem (E : FEnv) (w0 : World) (gh : Nat) (w : World) (p hg : Nat → Int) (b : Option Plan) (bv : Value) (ls : Int) (fd : Bool) : Prop where
  fin : Fin E w p bv ls fd
  best : BestAt E gh w b bv ls fd
  high : Owned w E.base 3 1 (.slice (some ⟨gh, 0, none⟩) E.m E.m) E.m (fun i _ => .int .i64 (hg i))
  but : But E.X w0 w
  top : E.top ≤ gh
  new : w0.heap.size ≤ gh

section
variable {E : FEnv} {w0 w w' : World} {gh : Nat} {p p' hg : Nat → Int} {b : Option Plan} {bv : Value} {ls : Int} {fd : Bool}

theorem BestAt.but {X : Nat → Prop} (h : BestAt E gh w b bv ls fd) (hb : But X w w') (hX : ∀ k, gh < k → ¬ X k) : BestAt E gh w' b bv ls fd := by
  cases b with
  | none => exact h
  | some r => exact ⟨h.1, h.2.1, h.2.2.but hb (fun k hk => hX k (by have := (h.2.2.lt k hk).1; omega))⟩

theorem BestAt.found (h : BestAt E gh w b bv ls fd) (hf : fd = true) : ∃ r, b = some r ∧ ls = E.cost r := by
  cases b with
  | none => exact absurd (hf.symm.trans h) (by decide)
  | some r => exact ⟨r, rfl, h.2.1⟩

theorem X_lt (ok : E.Ok) {k : Nat} (h : E.X k) : k < E.top := by
  rcases h with h | h | h <;> subst h
  · exact ok.tF
  · exact ok.tp
  · exact ok.tm

/-- Behind a call that only makes memory. -/
theorem Mem.later (h : Mem E w0 gh w p hg b bv ls fd) (ok : E.Ok) (hb : Below w.heap.size w w') : Mem E w0 gh w' p hg b bv ls fd :=
  ⟨h.fin.later ok hb, h.best.but (But.ofBelow (X := fun _ => False) hb) (fun _ _ h => h), h.high.later hb, h.but.then hb, h.top, h.new⟩

/-- Behind lay. -/
theorem Mem.laid (h : Mem E w0 gh w p hg b bv ls fd) (ok : E.Ok) (hf : Fin E w' p' bv ls fd) (hb : But E.X w w') : Mem E w0 gh w' p' hg b bv ls fd :=
  ⟨hf, h.best.but hb (fun k hk hx => by have := X_lt ok hx; have := h.top; omega), h.high.but hb (fun k hk hx => by have e : gh = k := Option.some.inj hk; have := X_lt ok hx; have := h.top; omega), h.but.trans hb, h.top, h.new⟩

/-- A store into high. -/
theorem Mem.put (h : Mem E w0 gh w p hg b bv ls fd) (ok : E.Ok) (i : Nat) (v : Int) : Mem E w0 gh (w.setCell ⟨gh, i, none⟩ (.int .i64 v)) p (setF hg i v) b bv ls fd := by
  have hb := (But.refl (fun k => k = gh) w).setCell (p := ⟨gh, i, none⟩) rfl (.int .i64 v)
  refine ⟨h.fin.setNew ok (q := ⟨gh, i, none⟩) h.top _, h.best.but hb (fun k hk e => by omega), ?_, h.but.setNew (p := ⟨gh, i, none⟩) h.new _, h.top, h.new⟩
  exact (h.high.put1 (k := i) (.int .i64 v)).congr (fun j l hj hl => by
    unfold upd setF
    by_cases e : j = i
    · rw [if_pos ⟨e, by omega⟩, if_pos e]
    · rw [if_neg (fun h => e h.1), if_neg e])
end

def DescW (E : FEnv) (w0 : World) (gh V i : Nat) (w : World) : Prop := ∃ p hg b bv ls fd, Desc E V i p hg b ∧ Mem E w0 gh w p hg b bv ls fd
def AscW (E : FEnv) (w0 : World) (gh V k : Nat) (w : World) : Prop := ∃ p hg b bv ls fd, Asc1 E V k p hg b ∧ Mem E w0 gh w p hg b bv ls fd

/-- The frame at a label: the finder, high, i. -/
def FrameAt (E : FEnv) (gh : Nat) (x : Int) (a : Act) : Prop := ∃ u1 r, a = ⟨(.pointer (some ⟨E.F, 0, none⟩) :: u1 :: .slice (some ⟨gh, 0, none⟩) E.m E.m :: .int .i64 x :: r).toArray, []⟩ ∧ r.length = 120

theorem list_succ {l : List Value} {n : Nat} (h : l.length = n + 1) : ∃ x r, l = x :: r ∧ r.length = n := by
  match l, h with
  | x :: r, h => exact ⟨x, r, rfl, by simpa using h⟩
theorem list_zero {l : List Value} (h : l.length = 0) : l = [] := List.length_eq_zero_iff.1 h

/-- The code of run behind its two labels. -/
def inScope : Code → Code
  | .scope c => c
  | c => c
def second : Code → Code
  | .seq _ c => c
  | c => c
noncomputable def runCode : Code := inScope (Try.f27.body.getD .skip)
noncomputable def ascCode : Code := second ((findLabel runCode 0).getD .skip)
noncomputable def descCode : Code := second ((findLabel runCode 1).getD .skip)

set_option maxRecDepth 1000000 in
set_option maxHeartbeats 6400000 in
theorem asc_wp (E : FEnv) (ok : E.Ok) (w0 : World) (gh V k : Nat) (a : Act) (w : World) (x : Int) (hx : x = (k : Int) - 1) (hA : AscW E w0 gh V k w) (hfr : FrameAt E gh x a) (Q0 : Exit → Act → World → Prop)
    (hg1 : ∀ (i : Nat) (x : Int) a w, x = i → DescW E w0 gh (V + 1) i w → FrameAt E gh x a → Q0 (.goto 1) a w)
    (hend : ∀ (a : Act) w, a.defers = [] → AscW E w0 gh V 0 w → Q0 .normal a w) : ascCode.wp Try.prog Q0 a w := by
  subst hx
  conv => arg 2; whnf
  obtain ⟨u1, r, rfl, hr⟩ := hfr
  iterate 120 (have hr' := list_succ hr; clear hr; obtain ⟨_, r, rfl, hr⟩ := hr')
  obtain rfl := list_zero hr
  clear hr
  have HO := Lib.hid ok
  have H1 := Lib.hid hg1
  have H2 := Lib.hid hend
  have hm6 := ok.good.m6
  clear ok hg1 hend
  go_step
  go_loopw [3] (fun t wr => ∃ j : Nat, t = .int .i64 ((j : Int) - 1) ∧ AscW E w0 gh V j wr) (fun t _ => (intOf t + 1).toNat)
  case atStart => exact ⟨k, rfl, hA⟩
  case round =>
    clear hA
    obtain ⟨j, rfl, hA⟩ := hrel
    cases j with
    | zero =>
      go_wp2_with fail
      exact H2.out _ _ rfl hA
    | succ i =>
      have e1 : (((i + 1 : Nat) : Int) - 1) = (i : Int) := by omega
      rw [e1]
      clear e1
      have hi0 : (0 : Int) ≤ i := by omega
      obtain ⟨p, hg, b, bv, ls, fd, hA, hM⟩ := hA
      have him : i < E.m := hA.pl.le
      have him' : (i : Int) < E.m := by omega
      go_wp2_with fail
      go_loopg [3] (hg i - p i).toNat (fun n t wx => t = .int .i64 i ∧ ∃ p hg b bv ls fd, (hg i - p i).toNat = n ∧ Asc1 E V (i + 1) p hg b ∧ Mem E w0 gh wx p hg b bv ls fd)
      case atStart => exact ⟨rfl, p, hg, b, bv, ls, fd, rfl, hA, hM⟩
      case round =>
        clear hA hM p hg b bv ls fd
        obtain ⟨wx, hwx'⟩ : ∃ wx, wx = wr := ⟨_, rfl⟩
        subst hwx'
        obtain ⟨rfl, p, hg, b, bv, ls, fd, hn, hA, hM⟩ := hrel
        have HN := Lib.hid hn
        have HA := Lib.hid hA
        have HM := Lib.hid hM
        obtain ⟨-, -, -, -, f4, -, -, -, -, -, -, -, -⟩ := hM.fin.fields
        obtain ⟨a0, -⟩ := hM.fin.ply him
        have h0 := hM.high.cells1.2.2.1 i him
        have hFl : E.F < wx.heap.size := hM.fin.blk.lt
        have hpl : E.gp < wx.heap.size := hM.fin.plies.cells1.2.1
        have hhl : gh < wx.heap.size := hM.high.cells1.2.1
        obtain ⟨b1, b2⟩ := hA.pl.bd40 HO.out i
        have b3 : hg i ≤ 40 := by have h1 := (hA.pl.highs i (by omega)).most; have h2 := HO.out.most1; omega
        clear hn hA hM
        have z4 := fun z : Ext wx.heap.size wx => z.cell (b := E.F) hFl f4
        have za := fun z : Ext wx.heap.size wx => z.cell (b := E.gp) hpl a0
        have zh := fun z : Ext wx.heap.size wx => z.cell (b := gh) hhl h0
        clear f4 a0 h0
        go_upto_region 16 with (fail)
        refine region_ext wx.heap.size (by kernel_rfl) (by kernel_rfl) ?_
        repeat (go_big_quiet_step (fail))
        refine wpQuiet_nil ?_
        rintro _ ⟨z, rfl⟩
        obtain ⟨wq, hq⟩ := z
        dsimp only
        have HM2 := Lib.hid (HM.out.later HO.out hq)
        clear z4 za zh hq HM
        by_cases hlt : p i < hg i
        · obtain ⟨-, -, -, -, f4, -, -, -, -, -, -, -, -⟩ := HM2.out.fin.fields
          obtain ⟨a0, -⟩ := HM2.out.fin.ply him
          have HBD := Lib.hid (fun j (_ : j < E.m) => HA.out.pl.bd40 HO.out j)
          go_wp2_with fail
          refine (lay_any E HO.out wq p bv ls fd i (p i + 1) him HBD.out (by omega) (by omega) HM2.out.fin).mono ?_
          rintro r w1 ⟨rfl, hf1, hb1⟩
          have HM3 := Lib.hid (HM2.out.laid HO.out hf1 hb1)
          have HD := Lib.hid (HA.out.more HO.out hlt)
          clear f4 a0 hf1 hb1 HM2
          go_wp2_with fail
          have HBD2 := Lib.hid (fun j (_ : j < E.m) => HD.out.pl.bd40 HO.out j)
          refine (hopeless_any E HO.out w1 (setP p i (p i + 1)) bv ls fd (i + 1) him HBD2.out HM3.out.fin).mono ?_
          rintro r w2 ⟨rfl, hb2⟩
          have HM4 := Lib.hid (HM3.out.later HO.out hb2)
          clear hb2 HM3
          cases hh : (fd && decide (ls ≤ E.cost (setP p i (p i + 1)) + E.most1 (setP p i (p i + 1)) (i + 1) E.S))
          · have HDW := Lib.hid (show DescW E w0 gh (V + 1) (i + 1) w2 from ⟨_, _, _, _, _, _, HD.out, HM4.out⟩)
            clear hh
            go_wp2_with fail
            go_step3
            refine H1.out (i + 1) ((i : Int) + 1) _ _ (by omega) HDW.out ⟨_, _, rfl, ?_⟩
            rfl
          · have HAA := Lib.hid (show Asc1 E V (i + 1) (setP p i (p i + 1)) hg b from by
              obtain ⟨h1, h2⟩ := Bool.and_eq_true_iff.1 hh
              obtain ⟨r, rfl, hr⟩ := HM4.out.best.found h1
              exact HD.out.weaken.hopeless HO.out (by have := of_decide_eq_true h2; rw [hr] at this; exact this))
            clear hh
            go_wp2_with fail
            go_roundg (hg i - (p i + 1)).toNat
            case measure => have := HN.out; omega
            case rel => exact ⟨rfl, _, _, _, _, _, _, by rw [setP_at], HAA.out, HM4.out⟩
        · have HBD := Lib.hid (fun j (_ : j < E.m) => HA.out.pl.bd40 HO.out j)
          go_wp2_with fail
          refine (lay_any E HO.out wq p bv ls fd i 0 him HBD.out (by omega) (by omega) HM2.out.fin).mono ?_
          rintro r w1 ⟨rfl, hf1, hb1⟩
          have HM3 := Lib.hid (HM2.out.laid HO.out hf1 hb1)
          have HU := Lib.hid (HA.out.up HO.out (by omega))
          clear hf1 hb1 HM2
          go_wp2_with fail
          go_roundw
          case rel => exact ⟨i, rfl, _, _, _, _, _, _, HU.out, HM3.out⟩
          case measure => simp [intOf]

end Go.Proofs.Ytkdpkaidbmjcaaa
