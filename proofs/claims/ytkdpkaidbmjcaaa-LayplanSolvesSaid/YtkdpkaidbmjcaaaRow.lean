/- Slices whose elements take sz cells each: read rows, rows of the call's own, append. No program in sight. -/
import Derived.Test.YtkdpkaidbmjcaaaBase
import Derived.Maps.AppendAt
import Derived.Deep.OwnRows
namespace Go.Proofs.Ytkdpkaidbmjcaaa
open Go.RowKit
set_option linter.unusedVariables false

/-- The cells of n elements of sz cells each; cell j of element i is f i j. -/
def cellsOf (sz n : Nat) (f : Nat → Nat → Value) : List Value := (List.range (n * sz)).map fun t => f (t / sz) (t % sz)

section
variable {sz n : Nat} {f g : Nat → Nat → Value}
theorem cellsOf_length : (cellsOf sz n f).length = n * sz := by simp [cellsOf]

theorem cellsOf_at (t : Nat) (ht : t < n * sz) : (cellsOf sz n f)[t]? = some (f (t / sz) (t % sz)) := by
  simp [cellsOf, List.getElem?_range ht]

theorem idx_lt {i j : Nat} (hi : i < n) (hj : j < sz) : i * sz + j < n * sz := by
  have h : (i + 1) * sz ≤ n * sz := Nat.mul_le_mul_right sz hi
  rw [Nat.add_mul, Nat.one_mul] at h
  omega

theorem idx_div {i j : Nat} (hj : j < sz) : (i * sz + j) / sz = i := by
  rw [Nat.mul_comm, Nat.mul_add_div (by omega), Nat.div_eq_of_lt hj, Nat.add_zero]

theorem idx_mod {i j : Nat} (hj : j < sz) : (i * sz + j) % sz = j := by
  rw [Nat.mul_comm, Nat.mul_add_mod, Nat.mod_eq_of_lt hj]

theorem cellsOf_get {i j : Nat} (hi : i < n) (hj : j < sz) : (cellsOf sz n f)[i * sz + j]? = some (f i j) := by
  rw [cellsOf_at _ (idx_lt hi hj), idx_div hj, idx_mod hj]

theorem cellsOf_congr (h : ∀ i j, i < n → j < sz → f i j = g i j) : cellsOf sz n f = cellsOf sz n g := by
  unfold cellsOf
  refine List.map_congr_left fun t ht => ?_
  have ht' : t < n * sz := List.mem_range.1 ht
  have hs : 0 < sz := by
    rcases Nat.eq_zero_or_pos sz with h0 | h0
    · rw [h0, Nat.mul_zero] at ht'; omega
    · exact h0
  exact h _ _ (Nat.div_lt_of_lt_mul (by rw [Nat.mul_comm]; exact ht')) (Nat.mod_lt _ hs)

theorem cellsOf_ext {xs : List Value} (hl : xs.length = n * sz) (h : ∀ i j, i < n → j < sz → xs[i * sz + j]? = some (f i j)) : xs = cellsOf sz n f := by
  refine List.ext_getElem? fun t => ?_
  rcases Nat.lt_or_ge t (n * sz) with ht | ht
  · rw [cellsOf_at t ht]
    have hs : 0 < sz := by
      rcases Nat.eq_zero_or_pos sz with h0 | h0
      · rw [h0, Nat.mul_zero] at ht; omega
      · exact h0
    have e : t / sz * sz + t % sz = t := by rw [Nat.mul_comm]; exact Nat.div_add_mod t sz
    have := h (t / sz) (t % sz) (Nat.div_lt_of_lt_mul (by rw [Nat.mul_comm]; exact ht)) (Nat.mod_lt _ hs)
    rw [e] at this
    exact this
  · rw [List.getElem?_eq_none (by omega), List.getElem?_eq_none (by rw [cellsOf_length]; omega)]

theorem cellsOf_mem {u : Value} (h : u ∈ cellsOf sz n f) : ∃ i j, i < n ∧ j < sz ∧ u = f i j := by
  unfold cellsOf at h
  obtain ⟨t, ht, rfl⟩ := List.mem_map.1 h
  have ht' : t < n * sz := List.mem_range.1 ht
  have hs : 0 < sz := by
    rcases Nat.eq_zero_or_pos sz with h0 | h0
    · rw [h0, Nat.mul_zero] at ht'; omega
    · exact h0
  exact ⟨_, _, Nat.div_lt_of_lt_mul (by rw [Nat.mul_comm]; exact ht'), Nat.mod_lt _ hs, rfl⟩

/-- f for the first n elements, then g. -/
def glue (n : Nat) (f g : Nat → Nat → Value) : Nat → Nat → Value := fun i j => if i < n then f i j else g (i - n) j

theorem cellsOf_append {m : Nat} : cellsOf sz n f ++ cellsOf sz m g = cellsOf sz (n + m) (glue n f g) := by
  refine cellsOf_ext (by rw [List.length_append, cellsOf_length, cellsOf_length, Nat.add_mul]) fun i j hi hj => ?_
  unfold glue
  by_cases h : i < n
  · rw [if_pos h, List.getElem?_append_left (by rw [cellsOf_length]; exact idx_lt h hj), cellsOf_get h hj]
  · have e : i * sz + j = n * sz + ((i - n) * sz + j) := by rw [Nat.sub_mul]; have := Nat.mul_le_mul_right sz (by omega : n ≤ i); omega
    rw [if_neg h, e, List.getElem?_append_right (by rw [cellsOf_length]; omega), cellsOf_length, Nat.add_sub_cancel_left, cellsOf_get (by omega) hj]

/-- Cell j of element k is turned to u. -/
def upd (f : Nat → Nat → Value) (k j : Nat) (u : Value) : Nat → Nat → Value := fun i l => if i = k ∧ l = j then u else f i l

theorem cellsOf_set {k j : Nat} (hj : j < sz) (u : Value) : (cellsOf sz n f).set (k * sz + j) u = cellsOf sz n (upd f k j u) := by
  refine cellsOf_ext (by rw [List.length_set, cellsOf_length]) fun i l hi hl => ?_
  unfold upd
  rw [List.getElem?_set]
  by_cases h : i = k ∧ l = j
  · obtain ⟨rfl, rfl⟩ := h
    rw [if_pos rfl, if_pos (by rw [cellsOf_length]; exact idx_lt hi hl), if_pos ⟨rfl, rfl⟩]
  · rw [if_neg h, if_neg, cellsOf_get hi hl]
    intro e
    apply h
    have h1 : (k * sz + j) / sz = (i * sz + l) / sz := by rw [e]
    have h2 : (k * sz + j) % sz = (i * sz + l) % sz := by rw [e]
    rw [idx_div hj, idx_div hl] at h1
    rw [idx_mod hj, idx_mod hl] at h2
    exact ⟨h1.symm, h2.symm⟩
end

/-- The slice at A holds n elements of sz cells, below block B. -/
def Row (w : World) (B sz : Nat) (A : Option Addr) (n : Nat) (f : Nat → Nat → Value) : Prop :=
  0 < n → ∃ b off, A = some ⟨b, off, none⟩ ∧ b < B ∧ ∀ i j, i < n → j < sz → w.cell? ⟨b, off + i * sz + j, none⟩ = some (f i j)

section
variable {w w' : World} {B B' sz n : Nat} {A : Option Addr} {f g : Nat → Nat → Value}
theorem Row.keep (h : Row w B sz A n f) (hb : Below B w w') : Row w' B sz A n f := by
  intro hn
  obtain ⟨b, off, hA, hB, hc⟩ := h hn
  exact ⟨b, off, hA, hB, fun i j hi hj => (hb.cell (p := ⟨b, _, none⟩) hB).trans (hc i j hi hj)⟩
theorem Row.more (h : Row w B sz A n f) (hB : B ≤ B') : Row w B' sz A n f := by
  intro hn
  obtain ⟨b, off, hA, hb, hc⟩ := h hn
  exact ⟨b, off, hA, by omega, hc⟩
theorem Row.later (h : Row w w.heap.size sz A n f) (hb : Below w.heap.size w w') : Row w' w'.heap.size sz A n f := (h.keep hb).more hb.size
theorem Row.take {k : Nat} (h : Row w B sz A n f) (hk : k ≤ n) : Row w B sz A k f := by
  intro h0
  obtain ⟨b, off, hA, hb, hc⟩ := h (by omega)
  exact ⟨b, off, hA, hb, fun i j hi hj => hc i j (by omega) hj⟩
theorem Row.congr (h : Row w B sz A n f) (he : ∀ i j, i < n → j < sz → f i j = g i j) : Row w B sz A n g := by
  intro h0
  obtain ⟨b, off, hA, hb, hc⟩ := h h0
  exact ⟨b, off, hA, hb, fun i j hi hj => by rw [← he i j hi hj]; exact hc i j hi hj⟩
end

/-- v is a slice of n elements that is the call's own: it may be written. -/
def Owned (w : World) (base : Nat) (e : TypeId) (sz : Nat) (v : Value) (n : Nat) (f : Nat → Nat → Value) : Prop := w.ownsRow base e sz v n (cellsOf sz n f)

section
variable {w w' : World} {base e sz n : Nat} {v : Value} {f g : Nat → Nat → Value}

theorem Owned.nil (w : World) (base : Nat) (e : TypeId) (sz : Nat) (f : Nat → Nat → Value) : Owned w base e sz (.slice none 0 0) 0 f := ⟨by simp [cellsOf], .inl ⟨rfl, rfl⟩⟩

theorem Owned.congr (h : Owned w base e sz v n f) (he : ∀ i j, i < n → j < sz → f i j = g i j) : Owned w base e sz v n g := by
  unfold Owned at *
  rwa [← cellsOf_congr he]

theorem Owned.mono {b' : Nat} (h : Owned w base e sz v n f) (hb : b' ≤ base) : Owned w b' e sz v n f := by
  obtain ⟨h1, h2⟩ := h
  refine ⟨h1, ?_⟩
  rcases h2 with h2 | ⟨g, cap, cur, hv, hg, r⟩
  · exact .inl h2
  · exact .inr ⟨g, cap, cur, hv, by omega, r⟩

/-- What it looks like. -/
theorem Owned.form (h : Owned w base e sz v n f) : ∃ A c, v = .slice A n c ∧ n ≤ c ∧ c ≤ maxLen ∧ Row w w.heap.size sz A n f := by
  obtain ⟨hl, h⟩ := h
  rcases h with ⟨rfl, rfl⟩ | ⟨g, cap, cur, rfl, hg, hh, hnc, hcm, hs, hx⟩
  · exact ⟨none, 0, rfl, by omega, by simp only [maxLen]; omega, fun h0 => absurd h0 (by omega)⟩
  · refine ⟨some ⟨g, 0, none⟩, cap, rfl, hnc, hcm, fun h0 => ⟨g, 0, rfl, (Array.getElem?_eq_some_iff.1 hh).1, fun i j hi hj => ?_⟩⟩
    have h1 : w.cell? ⟨g, 0 + i * sz + j, none⟩ = cur[0 + i * sz + j]? := by simp [World.cell?, hh]
    rw [h1, Nat.zero_add]
    have h2 : (cur.toList.take (n * sz))[i * sz + j]? = some (f i j) := by rw [hx]; exact cellsOf_get hi hj
    rw [List.getElem?_take, if_pos (idx_lt hi hj)] at h2
    simpa using h2

/-- The block, if there is an element. -/
theorem Owned.blk (h : Owned w base e sz v n f) (h0 : 0 < n) : ∃ g cap, v = .slice (some ⟨g, 0, none⟩) n cap ∧ base ≤ g ∧ g < w.heap.size ∧ n ≤ cap ∧ cap ≤ maxLen ∧
    (∀ i j, i < n → j < sz → w.cell? ⟨g, i * sz + j, none⟩ = some (f i j)) ∧ ∀ o, w.frozen? ⟨g, o, none⟩ = false := by
  obtain ⟨hl, h⟩ := h
  rcases h with ⟨rfl, rfl⟩ | ⟨g, cap, cur, rfl, hg, hh, hnc, hcm, hs, hx⟩
  · omega
  · refine ⟨g, cap, rfl, hg, (Array.getElem?_eq_some_iff.1 hh).1, hnc, hcm, fun i j hi hj => ?_, fun o => by simp [World.frozen?, hh]⟩
    have h1 : w.cell? ⟨g, i * sz + j, none⟩ = cur[i * sz + j]? := by simp [World.cell?, hh]
    rw [h1]
    have h2 : (cur.toList.take (n * sz))[i * sz + j]? = some (f i j) := by rw [hx]; exact cellsOf_get hi hj
    rw [List.getElem?_take, if_pos (idx_lt hi hj)] at h2
    simpa using h2

/-- A store into it. -/
theorem Owned.put {gb cap k j : Nat} (h : Owned w base e sz (.slice (some ⟨gb, 0, none⟩) n cap) n f) (hj : j < sz) (u : Value) :
    Owned (w.setCell ⟨gb, k * sz + j, none⟩ u) base e sz (.slice (some ⟨gb, 0, none⟩) n cap) n (upd f k j u) := by
  have := World.ownsRow.stored h (k * sz + j) u
  unfold Owned
  rw [← cellsOf_set hj]
  exact this.1

theorem Owned.far {p : Addr} (h : Owned w base e sz v n f) (hp : v.ownBlock ≠ some p.block) (u : Value) : Owned (w.setCell p u) base e sz v n f :=
  ownsRow_setCell_other h hp u

theorem Owned.low {p : Addr} (h : Owned w base e sz v n f) (hp : p.block < base) (u : Value) : Owned (w.setCell p u) base e sz v n f :=
  ownsRow_setCell_below h hp u

theorem Owned.alloc (h : Owned w base e sz v n f) (o : Obj) : Owned (w.alloc o) base e sz v n f := World.ownsRow.alloc h o
theorem Owned.drew (h : Owned w base e sz v n f) : Owned w.drew base e sz v n f := h

/-- A call that makes memory alone leaves it as it is. -/
theorem Owned.later (h : Owned w base e sz v n f) (hb : Below w.heap.size w w') : Owned w' base e sz v n f := by
  obtain ⟨hl, h⟩ := h
  refine ⟨hl, ?_⟩
  rcases h with h | ⟨g, cap, cur, hv, hg, hh, r⟩
  · exact .inl h
  · exact .inr ⟨g, cap, cur, hv, hg, (hb.block g (Array.getElem?_eq_some_iff.1 hh).1).trans hh, r⟩

theorem Owned.grown {row : Option Nat} (h : Owned w base e sz v n f) (hg : w.grownBy w' row) (hne : v.ownBlock = none ∨ v.ownBlock ≠ row) : Owned w' base e sz v n f := World.ownsRow.kept h hg hne

theorem Owned.lt (h : Owned w base e sz v n f) : ∀ k, v.ownBlock = some k → base ≤ k ∧ k < w.heap.size := World.ownsRow.lt h

/-- A literal: a new block that holds just the elements. -/
theorem Owned.lit (w : World) (cs : Array Value) (n : Nat) (e : TypeId) (sz : Nat) (f : Nat → Nat → Value) (hm : n ≤ maxLen) (hs : cs.toList = cellsOf sz n f) :
    Owned (w.alloc (.cells cs e)) w.heap.size e sz (.slice (some ⟨w.heap.size, 0, none⟩) n n) n f := by
  have hsz : cs.size = n * sz := by rw [← Array.length_toList, hs, cellsOf_length]
  refine ⟨cellsOf_length, .inr ⟨w.heap.size, n, cs, rfl, Nat.le_refl _, ?_, Nat.le_refl _, hm, hsz, ?_⟩⟩
  · show (w.heap.push _)[w.heap.size]? = _
    simp
  · rw [← hs, ← hsz, ← Array.length_toList, List.take_length]
end

/-- make([]T, n), T of one cell. -/
theorem Owned.made (w : World) (z : Value) (n : Nat) (e : TypeId) (hm : n ≤ maxLen) : Owned (w.alloc (.cells (madeCells #[z] n) e)) w.heap.size e 1 (.slice (some ⟨w.heap.size, 0, none⟩) n n) n (fun _ _ => z) :=
  Owned.lit w _ n e 1 _ hm (by
    rw [toList_madeCells_one]
    refine cellsOf_ext (by simp) fun i j hi hj => ?_
    rw [List.getElem?_replicate, if_pos (by omega)])

theorem Owned.put1 {w : World} {base e n gb cap k : Nat} {f : Nat → Nat → Value} (h : Owned w base e 1 (.slice (some ⟨gb, 0, none⟩) n cap) n f) (u : Value) :
    Owned (w.setCell ⟨gb, k, none⟩ u) base e 1 (.slice (some ⟨gb, 0, none⟩) n cap) n (upd f k 0 u) := by
  have := h.put (k := k) (j := 0) (by omega) u
  rwa [Nat.mul_one, Nat.add_zero] at this

/-- Every cell is the value of one cell. -/
def Plain (sz n : Nat) (f : Nat → Nat → Value) : Prop := ∀ i j, i < n → j < sz → (f i j).oneCell' = true

section
variable {P : Program} (w : World)

/-- append(own, row...): the row may be nil. -/
theorem run_append_row (base : Nat) (t ty e : TypeId) (i : TypeInfo) (z : Value) (sz bytes : Nat) (ht : P.underlying t = some (.slice e)) (hi : P.info? e = some i) (hz : i.zero = some z)
    (hsize : i.size = sz) (hby : i.bytes = bytes) (hzs : z.cells.size = sz) (hsz : 0 < sz)
    (v : Value) (n : Nat) (f : Nat → Nat → Value) (hown : Owned w base e sz v n f)
    (B : Nat) (A : Option Addr) (m c : Nat) (g : Nat → Nat → Value) (hr : Row w B sz A m g) (h1 : Plain sz m g)
    (h63 : n + m ≤ maxLen) (hbytes : (n + m) * bytes ≤ 140737488355328) (hbase : base ≤ w.heap.size) :
    ∃ v' w', (Builtin.append_ #[t, t] ty #[v, .slice A m c]).run P w = .ok v' w' ∧ Owned w' base e sz v' (n + m) (glue n f g) ∧ w.grownBy w' v.ownBlock ∧
      (v'.ownBlock = v.ownBlock ∨ v'.ownBlock = some w.heap.size) := by
  rcases Nat.eq_zero_or_pos m with h0 | h0
  · subst h0
    rcases A with _ | ad
    · refine ⟨v, w, ?_, hown.congr (fun i j hi hj => by unfold glue; rw [if_pos hi]), World.grownBy.refl w _, .inl rfl⟩
      rcases hown.2 with ⟨rfl, rfl⟩ | ⟨gb, cap, cur, rfl, _, _, hnc, _⟩
      · simp [Builtin.append_, run_underlying ht, sizeOf, typeInfo, hi, Builtin.lenOf, Builtin.firstCells]
      · simp [Builtin.append_, run_underlying ht, sizeOf, typeInfo, hi, Builtin.lenOf, Builtin.firstCells, hnc, storeCells]
    · obtain ⟨v', w', hrun, h2, h3, _, h5⟩ := run_append_own_at (P := P) w base t ty e i z sz bytes ht hi hz hsize hby hzs hsz v n _ hown ad 0 c [] (by simp) (fun j u hu => by simp at hu) (fun u hu => by simp at hu) h63 hbytes hbase
      refine ⟨v', w', hrun, ?_, h3, h5⟩
      have h2' : Owned w' base e sz v' n f := by unfold Owned; simpa using h2
      exact h2'.congr (fun i j hi hj => by unfold glue; rw [if_pos hi])
  · obtain ⟨b, off, rfl, _, hc⟩ := hr h0
    obtain ⟨v', w', hrun, h2, h3, _, h5⟩ := run_append_own_at (P := P) w base t ty e i z sz bytes ht hi hz hsize hby hzs hsz v n _ hown ⟨b, off, none⟩ m c (cellsOf sz m g) cellsOf_length (fun j u hu => by
      have hj : j < m * sz := by
        rcases Nat.lt_or_ge j (m * sz) with h | h
        · exact h
        · rw [List.getElem?_eq_none (by rw [cellsOf_length]; exact h)] at hu; cases hu
      rw [cellsOf_at j hj] at hu
      have := hc (j / sz) (j % sz) (Nat.div_lt_of_lt_mul (by rw [Nat.mul_comm]; exact hj)) (Nat.mod_lt _ hsz)
      rw [Nat.add_assoc, show j / sz * sz + j % sz = j by rw [Nat.mul_comm]; exact Nat.div_add_mod j sz] at this
      rw [← Option.some.inj hu]
      unfold Addr.add
      split
      · rename_i hj0
        subst hj0
        simpa using this
      · exact this) (fun u hu => by obtain ⟨i, j, hi, hj, rfl⟩ := cellsOf_mem hu; exact h1 i j hi hj) h63 hbytes hbase
    exact ⟨v', w', hrun, by unfold Owned; rw [← cellsOf_append]; exact h2, h3, h5⟩

theorem wpList_append_row {ops : Array Oper} {rest : List Oper} {o : Oper} {a : Act} {Q : Exit → Act → World → Prop} (hgd : o.guard = none) (s x : Operand) (t : TypeId)
    (ho : o.op = .call { callee := .builtin .append, args := #[s, x], argTypes := #[t, t] })
    (base : Nat) (e : TypeId) (i : TypeInfo) (z : Value) (sz bytes : Nat) (ht : P.underlying t = some (.slice e)) (hi : P.info? e = some i) (hz : i.zero = some z)
    (hsize : i.size = sz) (hby : i.bytes = bytes) (hzs : z.cells.size = sz) (hsz : 0 < sz)
    (v : Value) (n : Nat) (f : Nat → Nat → Value) (hs : a.eval s = v) (hown : Owned w base e sz v n f)
    (B : Nat) (A : Option Addr) (m c : Nat) (g : Nat → Nat → Value) (hx : a.eval x = .slice A m c) (hr : Row w B sz A m g) (h1 : Plain sz m g)
    (h63 : n + m ≤ maxLen) (hbytes : (n + m) * bytes ≤ 140737488355328) (hbase : base ≤ w.heap.size)
    (h : ∀ v' w', Owned w' base e sz v' (n + m) (glue n f g) → w.grownBy w' v.ownBlock → (v'.ownBlock = v.ownBlock ∨ v'.ownBlock = some w.heap.size) → wpList P ops Q rest (a.put o.dst v') w') : wpList P ops Q (o :: rest) a w := by
  refine wpList_plain hgd fun K hK => ?_
  obtain ⟨v', w', hrun, h2, h3, h4⟩ := run_append_row (P := P) w base t o.type e i z sz bytes ht hi hz hsize hby hzs hsz v n f hown B A m c g hr h1 h63 hbytes hbase
  unfold Oper.wp execOp
  simp only [ho, resolve, invoke, builtin, Sem.run_bind, Sem.run_pure, Result.andThen_ok, List.map_toArray, List.map_cons, List.map_nil, hs, hx, hrun]
  exact hK _ _ (h v' w' h2 h3 h4)
end

theorem eql_nil {P : Program} {t e : TypeId} (ht : P.underlying t = some (.slice e)) (A : Option Addr) (n c : Nat) (w : World) :
    (binOp .eql t (.slice A n c) (.slice none 0 0)).run P w = .ok (.bool A.isNone) w := by
  have h : ∀ d : Nat, (Op.equalIn (d + 1) t (.slice A n c) (.slice none 0 0)).run P w = .ok A.isNone w := fun d => by
    cases A <;> simp [Op.equalIn, run_underlying ht]
  simp only [binOp]
  simp [Op.equal, Op.maxDepth, h 9999]

end Go.Proofs.Ytkdpkaidbmjcaaa
