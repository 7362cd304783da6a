/-
  Memory under the relation: rows of cells, loads, stores, new blocks, growth.
  Conditions: none.
-/
import Derived.Test.YtomakhllonkpiaaAbRel
import Derived.Laws.CopyRow
import Derived.Laws.Cells
import Derived.Laws.Append
import Derived.Laws.AppendOwn
import Derived.Laws.MakeOwn
namespace Go.Ab

theorem addr_add (b o k : Nat) : (⟨b, o, none⟩ : Addr).add k = ⟨b, o + k, none⟩ := by unfold Addr.add; split <;> simp_all

theorem flat_get {rs : List Row} {s : Nat} (hl : ∀ row ∈ rs, row.length = s) {i : Nat} {row : Row} (hi : rs[i]? = some row) {j : Nat} (hj : j < s) : rs.flatten[i * s + j]? = row[j]? := by
  induction rs generalizing i with
  | nil => simp at hi
  | cons r rest ih =>
    have hr : r.length = s := hl r (by simp)
    cases i with
    | zero =>
      simp at hi
      subst hi
      rw [Nat.zero_mul, Nat.zero_add, List.flatten_cons, List.getElem?_append_left (by omega)]
    | succ i =>
      simp at hi
      have := ih (fun x hx => hl x (by simp [hx])) hi
      rw [List.flatten_cons, List.getElem?_append_right (by rw [hr, Nat.succ_mul]; omega), hr, ← this]
      congr 1
      rw [Nat.succ_mul]
      omega

theorem flat_len {rs : List Row} {s : Nat} (hl : ∀ row ∈ rs, row.length = s) : rs.flatten.length = rs.length * s := by
  induction rs with
  | nil => simp
  | cons r rest ih =>
    simp only [List.flatten_cons, List.length_append, List.length_cons, hl r (by simp), ih (fun x hx => hl x (by simp [hx]))]
    rw [Nat.succ_mul]
    omega

theorem flat_inv {rs : List Row} {s : Nat} (hl : ∀ row ∈ rs, row.length = s) {k : Nat} {c : AV} (h : rs.flatten[k]? = some c) :
    ∃ i row j, rs[i]? = some row ∧ row[j]? = some c ∧ k = i * s + j ∧ j < s := by
  induction rs generalizing k with
  | nil => simp at h
  | cons r rest ih =>
    have hr : r.length = s := hl r (by simp)
    by_cases hk : k < s
    · rw [List.flatten_cons, List.getElem?_append_left (by omega)] at h
      exact ⟨0, r, k, by simp, h, by simp, hk⟩
    · rw [List.flatten_cons, List.getElem?_append_right (by omega)] at h
      obtain ⟨i, row, j, h1, h2, h3, h4⟩ := ih (fun x hx => hl x (by simp [hx])) h
      exact ⟨i + 1, row, j, by simpa using h1, h2, by rw [Nat.succ_mul]; omega, h4⟩

/-- These cells lie from (b, o) on. -/
def CellsAt (X : Ctx) (w : World) (b o : Nat) (cs : List AV) : Prop :=
  ∀ (k : Nat) c, cs[k]? = some c → ∃ v, w.cell? ⟨b, o + k, none⟩ = some v ∧ c.sc = true ∧ VRel X w c v

def RowsAt (X : Ctx) (w : World) (b o s : Nat) (rs : List Row) : Prop :=
  ∀ (i : Nat) row (j : Nat) c, rs[i]? = some row → row[j]? = some c → ∃ v, w.cell? ⟨b, o + i * s + j, none⟩ = some v ∧ c.sc = true ∧ VRel X w c v

theorem rows_flat {X : Ctx} {w : World} {b o s : Nat} {rs : List Row} (hl : ∀ row ∈ rs, row.length = s) : RowsAt X w b o s rs ↔ CellsAt X w b o rs.flatten := by
  constructor
  · intro h k c hk
    obtain ⟨i, row, j, h1, h2, h3, h4⟩ := flat_inv hl hk
    subst h3
    simpa [Nat.add_assoc] using h i row j c h1 h2
  · intro h i row j c h1 h2
    have hm : row ∈ rs := List.mem_of_getElem? h1
    have hj : j < s := by have := (List.getElem?_eq_some_iff.1 h2).1; rw [hl row hm] at this; exact this
    have := h (i * s + j) c (by rw [flat_get hl h1 hj]; exact h2)
    simpa [Nat.add_assoc] using this

theorem CellsAt.append {X : Ctx} {w : World} {b o : Nat} {as bs : List AV} (h1 : CellsAt X w b o as) (h2 : CellsAt X w b (o + as.length) bs) : CellsAt X w b o (as ++ bs) := by
  intro k c hk
  by_cases h : k < as.length
  · rw [List.getElem?_append_left h] at hk; exact h1 k c hk
  · rw [List.getElem?_append_right (by omega)] at hk
    have := h2 _ c hk
    rwa [show o + as.length + (k - as.length) = o + k by omega] at this

theorem CellsAt.left {X : Ctx} {w : World} {b o : Nat} {as bs : List AV} (h : CellsAt X w b o (as ++ bs)) : CellsAt X w b o as := by
  intro k c hk
  have := (List.getElem?_eq_some_iff.1 hk).1
  exact h k c (by rw [List.getElem?_append_left this]; exact hk)

theorem CellsAt.right {X : Ctx} {w : World} {b o : Nat} {as bs : List AV} (h : CellsAt X w b o (as ++ bs)) : CellsAt X w b (o + as.length) bs := by
  intro k c hk
  have := h (as.length + k) c (by rw [List.getElem?_append_right (by omega)]; simpa using hk)
  rwa [← Nat.add_assoc] at this

theorem CellsAt.drop {X : Ctx} {w : World} {b o n : Nat} {as : List AV} (h : CellsAt X w b o as) : CellsAt X w b (o + n) (as.drop n) := by
  intro k c hk
  rw [List.getElem?_drop] at hk
  have := h _ c hk
  rwa [← Nat.add_assoc] at this

theorem CellsAt.take {X : Ctx} {w : World} {b o n : Nat} {as : List AV} (h : CellsAt X w b o as) : CellsAt X w b o (as.take n) := by
  intro k c hk
  rw [List.getElem?_take] at hk
  split at hk
  · exact h k c hk
  · cases hk

/-- One value for each cell. -/
theorem CellsAt.values {X : Ctx} {w : World} {b o : Nat} {cs : List AV} (h : CellsAt X w b o cs) :
    ∃ vs : List Value, vs.length = cs.length ∧ (∀ (k : Nat) v, vs[k]? = some v → w.cell? ⟨b, o + k, none⟩ = some v) ∧ VRels X w cs vs ∧ ∀ v ∈ vs, v.oneCell' = true := by
  induction cs generalizing o with
  | nil => exact ⟨[], rfl, by simp, ⟨rfl, by simp⟩, by simp⟩
  | cons c cs ih =>
    obtain ⟨v, h1, h2, h3⟩ := h 0 c (by simp)
    obtain ⟨vs, k1, k2, k3, k4⟩ := ih (o := o + 1) (fun k c' hk => by
      have := h (k + 1) c' (by simpa using hk)
      rwa [show o + (k + 1) = o + 1 + k by omega] at this)
    refine ⟨v :: vs, by simp [k1], fun k u hk => ?_, ⟨by simp [k3.1], fun i c' u hc hu => ?_⟩, ?_⟩
    · cases k with
      | zero => simp at hk; subst hk; exact h1
      | succ k => simp at hk; have := k2 k u hk; rwa [show o + (k + 1) = o + 1 + k by omega]
    · cases i with
      | zero => simp at hc hu; subst hc; subst hu; exact h3
      | succ i => simp at hc hu; exact k3.2 i c' u hc hu
    · intro u hu
      simp at hu
      rcases hu with rfl | hu
      · cases h3 <;> first | rfl | (simp [AV.sc] at h2)
      · exact k4 u hu

theorem sc_one {X : Ctx} {w : World} {c : AV} {v : Value} (h : c.sc = true) (hv : VRel X w c v) : v.oneCell' = true ∧ v.cells = #[v] ∧ c.cells = [c] := by
  cases hv <;> first | exact ⟨rfl, rfl, rfl⟩ | (simp [AV.sc] at h)

theorem cells_rel {X : Ctx} {w : World} {c : AV} {v : Value} (hk : okRow c.cells = true) (hv : VRel X w c v) :
    VRels X w c.cells v.cells.toList ∧ ∀ u ∈ v.cells.toList, u.oneCell' = true := by
  have scal : c.sc = true → VRels X w c.cells v.cells.toList ∧ ∀ u ∈ v.cells.toList, u.oneCell' = true := by
    intro hs
    obtain ⟨h1, h2, h3⟩ := sc_one hs hv
    rw [h2, h3]
    refine ⟨⟨rfl, fun i a b ha hb => ?_⟩, by simpa using h1⟩
    cases i with
    | zero => simp at ha hb; subst ha; subst hb; exact hv
    | succ i => simp at ha
  cases hv with
  | agg hl hc =>
    rename_i cs vs
    refine ⟨⟨by simpa [AV.cells, Value.cells] using hl, fun i a b ha hb => hc i a b (by simpa [AV.cells] using ha) (by simpa [Value.cells] using hb)⟩, fun u hu => ?_⟩
    simp [Value.cells] at hu
    obtain ⟨i, hi⟩ := List.mem_iff_getElem?.1 hu
    have hi' := (List.getElem?_eq_some_iff.1 hi).1
    obtain ⟨c, hc'⟩ : ∃ c, cs[i]? = some c := ⟨cs[i]'(by omega), by simp [hl, hi']⟩
    have : c.sc = true := by
      simp [okRow, AV.cells] at hk
      exact hk c (List.mem_of_getElem? hc')
    exact (sc_one this (hc i c u hc' hi)).1
  | undef => simp [okRow, AV.cells, AV.sc] at hk
  | tup _ _ => simp [okRow, AV.cells, AV.sc] at hk
  | int => exact scal rfl
  | bool => exact scal rfl
  | str _ => exact scal rfl
  | nilp => exact scal rfl
  | ptr _ _ _ => exact scal rfl
  | iptr => exact scal rfl
  | nils => exact scal rfl
  | slice => exact scal rfl
  | islice0 => exact scal rfl
  | islice => exact scal rfl
  | func => exact scal rfl
  | nilf => exact scal rfl
  | nilmap => exact scal rfl
  | map => exact scal rfl
  | yld => exact scal rfl
  | iface => exact scal rfl
  | nilI => exact scal rfl

theorem run_storeCells_fr (P : Program) (g o : Nat) (t : TypeId) (lo hi : Nat) : ∀ (vs : List Value) (i : Nat) (cur : Array Value) (w : World), w.heap[g]? = some (.cells cur t (lo, hi)) →
    o + i + vs.length ≤ cur.size → (∀ x, x < cur.size → ¬(lo ≤ x ∧ x < hi)) → (∀ v ∈ vs, v.oneCell' = true) →
    (storeCells ⟨g, o, none⟩ vs i).run P w = .ok () (w.setRow g (cur.toList.take (o + i) ++ vs ++ cur.toList.drop (o + i + vs.length)).toArray)
  | [], i, cur, w, hg, _, _, _ => by
    simp only [storeCells, List.append_nil, List.length_nil, Nat.add_zero, List.take_append_drop, Array.toArray_toList]
    rw [setRow_self w g cur t (lo, hi) hg]
    rfl
  | v :: rest, i, cur, w, hg, hl, hf, h1 => by
    have hi : o + i < cur.size := by simp at hl; omega
    have hadd : (⟨g, o, none⟩ : Addr).add i = ⟨g, o + i, none⟩ := by unfold Addr.add; split <;> simp_all
    have hcell : w.cell? ⟨g, o + i, none⟩ = some cur[o + i] := by simp [World.cell?, hg, hi]
    have hfro : w.frozen? ⟨g, o + i, none⟩ = false := by
      have := hf (o + i) hi
      simp only [World.frozen?, hg]
      simp only [Bool.and_eq_false_iff, decide_eq_false_iff_not]
      omega
    have hst : (store ((⟨g, o, none⟩ : Addr).add i) v).run P w = .ok () (w.setRow g (cur.setIfInBounds (o + i) v)) := by
      rw [hadd, run_store P w _ v _ (h1 v (by simp)), hcell]
      simp [hfro, setCell_eq_setRow w g (o + i) cur t _ v hg]
    have ih := run_storeCells_fr P g o t lo _ rest (i + 1) (cur.setIfInBounds (o + i) v) (w.setRow g (cur.setIfInBounds (o + i) v)) (setRow_heap w g cur _ t _ hg) (by simp at hl ⊢; omega)
      (fun x hx => hf x (by simpa using hx)) (fun x hx => h1 x (by simp [hx]))
    simp only [storeCells, Sem.run_bind, hst, Result.andThen_ok, ih, setRow_setRow]
    congr 3
    have e := list_seg_step cur.toList (o + i) v rest (by simp at hl ⊢; omega)
    simpa [Array.toList_setIfInBounds, Nat.add_assoc] using e


/-! ### what the relation gives at a place -/
theorem BRel.cellsAt {X : Ctx} {w : World} {bi : BI} {g s : Nat} {rs : List Row} (h : BRel X w bi (.rows g s rs)) :
    (g = bi.g ∧ s = bi.sz) ∧ (∃ c e lo hi, w.heap[bi.B]? = some (.cells c e (lo, hi)) ∧ c.size = bi.cs ∧ Frz bi.cs lo hi) ∧
    (∀ row ∈ rs, row.length = bi.sz) ∧ bi.o + rs.length * bi.sz ≤ bi.cs ∧ CellsAt X w bi.B bi.o rs.flatten := by
  cases h with
  | rows h1 hs h2 h3 h4 h5 h6 h7 => exact ⟨⟨h1, hs⟩, ⟨_, _, _, _, h2, h3, h4⟩, h5, h6, (rows_flat h5).1 h7⟩

theorem brel_rows {X : Ctx} {w : World} {bi : BI} {g s : Nat} {rs : List Row} {c : Array Value} {e : TypeId} {lo hi : Nat} (h1 : g = bi.g) (hs : s = bi.sz) (h2 : w.heap[bi.B]? = some (.cells c e (lo, hi)))
    (h3 : c.size = bi.cs) (h4 : Frz bi.cs lo hi) (h5 : ∀ row ∈ rs, row.length = bi.sz) (h6 : bi.o + rs.length * bi.sz ≤ bi.cs) (h7 : CellsAt X w bi.B bi.o rs.flatten) :
    BRel X w bi (.rows g s rs) := .rows h1 hs h2 h3 h4 h5 h6 ((rows_flat h5).2 h7)

theorem Heap.rowsOf_some {H : Heap} {r g : Nat} {rs : List Row} (h : H.rowsOf r g = some rs) : ∃ s, H[r]? = some (.rows g s rs) := by
  unfold Heap.rowsOf at h
  split at h
  · rename_i g' s' rs' e
    split at h
    · rename_i hg; subst hg; cases h; exact ⟨s', e⟩
    · cases h
  · cases h

theorem Heap.blkOf_some {H : Heap} {r g : Nat} {b : Nat × List Row} (h : H.blkOf r g = some b) : H[r]? = some (.rows g b.1 b.2) := by
  unfold Heap.blkOf at h
  split at h
  · rename_i g' s' rs' e
    split at h
    · rename_i hg; subst hg; cases h; exact e
    · cases h
  · cases h

theorem Heap.row_some {H : Heap} {r g i : Nat} {row : Row} (h : H.row r g i = some row) : ∃ s rs, H[r]? = some (.rows g s rs) ∧ rs[i]? = some row := by
  unfold Heap.row at h
  split at h
  · rename_i g' s' rs' e
    split at h
    · rename_i hg; subst hg; exact ⟨s', rs', e, h⟩
    · cases h
  · cases h

/-- The block behind a reference that is current. -/
theorem HRel.at {X : Ctx} {H : Heap} {w : World} (hH : HRel X H w) {r g s : Nat} {rs : List Row} {bi : BI} (hb : H[r]? = some (.rows g s rs)) (hr : X.blk r = some bi) : BRel X w bi (.rows g s rs) := by
  obtain ⟨b, h1, h2⟩ := hH.blk r bi hr
  rw [hb] at h1
  cases h1
  exact h2

theorem row_at {rs : List Row} {s : Nat} (hl : ∀ row ∈ rs, row.length = s) {i : Nat} {row : Row} (hi : rs[i]? = some row) {X : Ctx} {w : World} {b o : Nat} (h : CellsAt X w b o rs.flatten) :
    CellsAt X w b (o + i * s) row := by
  intro k c hk
  have hj : k < s := by have := (List.getElem?_eq_some_iff.1 hk).1; rw [hl row (List.mem_of_getElem? hi)] at this; exact this
  have := h (i * s + k) c (by rw [flat_get hl hi hj]; exact hk)
  rwa [show o + (i * s + k) = o + i * s + k by omega] at this

theorem row_fits {rs : List Row} {s : Nat} {i : Nat} {row : Row} (hi : rs[i]? = some row) : i * s + s ≤ rs.length * s := by
  have := (List.getElem?_eq_some_iff.1 hi).1
  have : (i + 1) * s ≤ rs.length * s := Nat.mul_le_mul_right _ this
  rwa [Nat.succ_mul] at this

/-- Where a pointer leads: the cells of its row from its place on. -/
theorem ptr_cells {X : Ctx} {H : Heap} {w : World} (hH : HRel X H w) {r g i j : Nat} {v : Value} (hv : VRel X w (.ptr r g i j) v) {row : Row} (hr : H.row r g i = some row) :
    ∃ bi, X.blk r = some bi ∧ v = .pointer (some ⟨bi.B, bi.o + i * bi.sz + j, none⟩) ∧ row.length = bi.sz ∧ CellsAt X w bi.B (bi.o + i * bi.sz) row := by
  obtain ⟨s, rs, h1, h2⟩ := Heap.row_some hr
  cases hv with
  | ptr hx hg ha =>
    rename_i a bi
    have hb := hH.at h1 hx
    obtain ⟨k1, _, k3, _, k5⟩ := hb.cellsAt
    have := ha k1.1
    subst this
    exact ⟨bi, hx, rfl, k3 row (List.mem_of_getElem? h2), row_at k3 h2 k5⟩

theorem iptr_cells {X : Ctx} {w : World} {rows : List Row} {i j : Nat} {v : Value} (hv : VRel X w (.iptr rows i j) v) {row : Row} (hr : rows[i]? = some row) :
    ∃ b o, v = .pointer (some ⟨b, o + j, none⟩) ∧ CellsAt X w b o row := by
  cases hv with
  | iptr f hl hc hv hn hb =>
    rename_i b o s
    exact ⟨b, o + i * s, rfl, fun k c hk => ⟨f i k, (hc i row k c hr hk).1, (hc i row k c hr hk).2, hv i row k c hr hk⟩⟩

theorem cut_cells {X : Ctx} {w : World} {b o j : Nat} {row : Row} (h : CellsAt X w b o row) (P : Program) (t : TypeId) (agg : Option Nat) (c : AV) (hc : cut row j agg = some c)
    (ht : (agg = none ∧ (isAgg t).run P w = .ok false w) ∨ (∃ n, agg = some n ∧ (isAgg t).run P w = .ok true w ∧ (sizeOf t).run P w = .ok n w)) :
    ∃ v, (loadVar t ⟨b, o + j, none⟩).run P w = .ok v w ∧ VRel X w c v := by
  rcases ht with ⟨rfl, ht⟩ | ⟨n, rfl, ht, hs⟩
  · simp [cut] at hc
    obtain ⟨v, h1, h2, h3⟩ := h j c hc
    exact ⟨v, by simp [loadVar, ht, h1], h3⟩
  · simp only [cut, req] at hc
    split at hc
    · rename_i hle
      cases hc
      have hseg : CellsAt X w b (o + j) ((row.drop j).take n) := h.drop.take
      obtain ⟨vs, h1, h2, h3, h4⟩ := hseg.values
      have hlen : vs.length = n := by rw [h1]; simp; omega
      have hload := run_loadCells_list (P := P) w ⟨b, o + j, none⟩ vs (fun k v hk => by rw [addr_add]; exact h2 k v hk)
      rw [hlen] at hload
      refine ⟨.agg vs.toArray, ?_, .agg h1.symm h3.2⟩
      unfold loadVar
      rw [Sem.run_bind, ht, Result.andThen_ok, if_pos rfl, Sem.run_bind, hs, Result.andThen_ok, Sem.run_bind, hload, Result.andThen_ok, Sem.run_pure]
    · cases hc

theorem load_ok {X : Ctx} {H : Heap} {w : World} (hH : HRel X H w) {a : AV} {va : Value} (hv : VRel X w a va) (P : Program) (t : TypeId) (agg : Option Nat) (c : AV) (hc : loadAV H agg a = some c)
    (ht : (agg = none ∧ (isAgg t).run P w = .ok false w) ∨ (∃ n, agg = some n ∧ (isAgg t).run P w = .ok true w ∧ (sizeOf t).run P w = .ok n w)) :
    ∃ v, (Instr.loadAt t va).run P w = .ok v w ∧ VRel X w c v := by
  cases a <;> simp only [loadAV, Option.bind_eq_some_iff, reduceCtorEq] at hc
  case ptr r g i j =>
    obtain ⟨row, h1, h2⟩ := hc
    obtain ⟨bi, k1, k2, k3, k4⟩ := ptr_cells hH hv h1
    subst k2
    obtain ⟨v, m1, m2⟩ := cut_cells k4 P t agg c h2 ht
    exact ⟨v, by simpa [Instr.loadAt, Instr.sureAddr] using m1, m2⟩
  case iptr rows i j =>
    obtain ⟨row, h1, h2⟩ := hc
    obtain ⟨b, o, k2, k4⟩ := iptr_cells hv h1
    subst k2
    obtain ⟨v, m1, m2⟩ := cut_cells k4 P t agg c h2 ht
    exact ⟨v, by simpa [Instr.loadAt, Instr.sureAddr] using m1, m2⟩

theorem splice_flat {rs : List Row} {s : Nat} (hl : ∀ row ∈ rs, row.length = s) {i : Nat} {row : Row} (hi : rs[i]? = some row) {j : Nat} {cs : Row} (hj : j + cs.length ≤ s) :
    (rs.set i (splice row j cs)).flatten = rs.flatten.take (i * s + j) ++ cs ++ rs.flatten.drop (i * s + j + cs.length) := by
  induction rs generalizing i with
  | nil => simp at hi
  | cons r rest ih =>
    have hr : r.length = s := hl r (by simp)
    cases i with
    | zero =>
      simp at hi
      subst hi
      simp only [List.set_cons_zero, List.flatten_cons, splice, Nat.zero_mul, Nat.zero_add]
      rw [List.take_append_of_le_length (by omega), List.drop_append_of_le_length (by omega)]
      simp [List.append_assoc]
    | succ i =>
      simp at hi
      have := ih (fun x hx => hl x (by simp [hx])) hi
      simp only [List.set_cons_succ, List.flatten_cons, this]
      have e1 : (i + 1) * s + j = r.length + (i * s + j) := by rw [Nat.succ_mul, hr]; omega
      have e2 : (i + 1) * s + j + cs.length = r.length + (i * s + j + cs.length) := by rw [Nat.succ_mul, hr]; omega
      rw [e1, List.take_length_add_append]
      rw [show r.length + (i * s + j) + cs.length = r.length + (i * s + j + cs.length) by omega, List.drop_length_add_append]
      simp [List.append_assoc]

theorem len_set {rs : List Row} {s : Nat} (hl : ∀ row ∈ rs, row.length = s) {i : Nat} {x : Row} (hx : x.length = s) : ∀ row ∈ rs.set i x, row.length = s := by
  intro row hr
  rcases List.mem_or_eq_of_mem_set hr with h | h
  · exact hl row h
  · rw [h]; exact hx

theorem splice_len {row : Row} {j : Nat} {cs : Row} (h : j + cs.length ≤ row.length) : (splice row j cs).length = row.length := by
  simp [splice]; omega

/-- A row of cells of one block is written: the relation of that block. -/
theorem setRow_upd {X : Ctx} {w : World} {r : Nat} {bi : BI} (hr : X.blk r = some bi) {cur : Array Value} {e : TypeId} {lo hi : Nat} (hg : w.heap[bi.B]? = some (.cells cur e (lo, hi)))
    (new : Array Value) {bi' : BI} (hB : bi'.B = bi.B) (hl : bi' = bi ∨ bi.g < bi'.g) : Upd X w r bi bi' (w.setRow bi.B new) where
  was := hr
  size := by simp
  os := rfl
  tape := rfl
  output := rfl
  others b _ hne := setRow_other w bi.B b new hne
  later := hl
  place := .inl hB
  lt := by rw [hB]; simp; exact (Array.getElem?_eq_some_iff.1 hg).1

theorem CellsAt.stp {X X' : Ctx} {w w' : World} {H : Heap} (hH : HRel X H w) (h : Stp X w X' w') {b o : Nat} {cs : List AV} (hc : CellsAt X w b o cs) (hsame : ∀ k c, cs[k]? = some c → w'.cell? ⟨b, o + k, none⟩ = w.cell? ⟨b, o + k, none⟩) :
    CellsAt X' w' b o cs := by
  intro k c hk
  obtain ⟨v, h1, h2, h3⟩ := hc k c hk
  exact ⟨v, by rw [hsame k c hk]; exact h1, h2, h3.step hH h⟩

/-- Cells of a row that has been written anew from a place on. -/
theorem cellsAt_splice {X X' : Ctx} {w : World} {H : Heap} (hH : HRel X H w) {B o q : Nat} {cur : Array Value} {e : TypeId} {fr : Nat × Nat} (hg : w.heap[B]? = some (.cells cur e fr))
    {old : List AV} (hold : CellsAt X w B o old) {cs : List AV} {vs : List Value} (hrel : VRels X w cs vs) (hsc : okRow cs = true) (hfit : o + q + cs.length ≤ cur.size) (hq : q ≤ old.length)
    (hs : Stp X w X' (w.setRow B (cur.toList.take (o + q) ++ vs ++ cur.toList.drop (o + q + vs.length)).toArray)) :
    CellsAt X' (w.setRow B (cur.toList.take (o + q) ++ vs ++ cur.toList.drop (o + q + vs.length)).toArray) B o (old.take q ++ cs ++ old.drop (q + cs.length)) := by
  have hlen := hrel.1
  have hcell : ∀ j, (w.setRow B (cur.toList.take (o + q) ++ vs ++ cur.toList.drop (o + q + vs.length)).toArray).cell? ⟨B, j, none⟩ = (cur.toList.take (o + q) ++ vs ++ cur.toList.drop (o + q + vs.length))[j]? := by
    intro j
    rw [cell_setRow_same w B j cur _ e fr hg]
    simp
  have hwas : ∀ j, w.cell? ⟨B, j, none⟩ = cur.toList[j]? := by intro j; rw [cell_of_row w B j cur e fr hg]; simp
  have htk : (cur.toList.take (o + q)).length = o + q := by simp; omega
  intro k c hk
  rw [hcell]
  have hoq : (old.take q).length = q := by simp; omega
  by_cases h1 : k < q
  · rw [List.append_assoc, List.getElem?_append_left (by omega), List.getElem?_take, if_pos h1] at hk
    obtain ⟨v, a1, a2, a3⟩ := hold k c hk
    refine ⟨v, ?_, a2, a3.step hH hs⟩
    rw [List.append_assoc, List.getElem?_append_left (by omega), List.getElem?_take, if_pos (by omega), ← hwas]
    exact a1
  · by_cases h2 : k < q + cs.length
    · rw [List.append_assoc, List.getElem?_append_right (by omega), List.getElem?_append_left (by omega), hoq] at hk
      obtain ⟨v, hv⟩ : ∃ v, vs[k - q]? = some v := ⟨vs[k - q]'(by omega), by simp⟩
      refine ⟨v, ?_, ?_, (hrel.2 _ c v hk hv).step hH hs⟩
      · rw [List.append_assoc, List.getElem?_append_right (by omega), htk, List.getElem?_append_left (by omega), show o + k - (o + q) = k - q by omega]
        exact hv
      · simp [okRow] at hsc
        exact hsc c (List.mem_of_getElem? hk)
    · rw [List.getElem?_append_right (by simp; omega), List.getElem?_drop] at hk
      simp only [List.length_append, hoq] at hk
      rw [show q + cs.length + (k - (q + cs.length)) = k by omega] at hk
      obtain ⟨v, a1, a2, a3⟩ := hold k c hk
      refine ⟨v, ?_, a2, a3.step hH hs⟩
      rw [List.getElem?_append_right (by simp; omega), List.getElem?_drop]
      simp only [List.length_append, htk]
      rw [show o + q + vs.length + (o + k - (o + q + vs.length)) = o + k by omega, ← hwas]
      exact a1

theorem store_ok {X : Ctx} {H H' : Heap} {w : World} (hH : HRel X H w) {a c : AV} {va vc : Value} (hv : VRel X w a va) (hc : VRel X w c vc) (P : Program) (t : TypeId) (sz : Nat)
    (ht : (sizeOf t).run P w = .ok sz w) (he : storeAV H sz a c = some H') :
    ∃ w' X', (Instr.storeAt t va vc).run P w = .ok () w' ∧ HRel X' H' w' ∧ Stp X w X' w' := by
  cases a <;> simp only [storeAV, Option.bind_eq_some_iff, reduceCtorEq] at he
  case ptr r g i j =>
    obtain ⟨⟨s, rs⟩, h1, row, h2, h3⟩ := he
    unfold req at h3
    split at h3
    · rename_i hreq
      cases h3
      obtain ⟨hlen, hfit, hok⟩ := hreq
      have hb := Heap.blkOf_some h1
      have hrow : H.row r g i = some row := by simp [Heap.row, hb, h2]
      obtain ⟨bi, hx, hva, hrl, _⟩ := ptr_cells hH hv hrow
      subst hva
      have hbr := hH.at hb hx
      obtain ⟨⟨hg, hss⟩, ⟨cur, e, lo, hi, hcur, hsz, hfr⟩, hl, hle, hat⟩ := hbr.cellsAt
      obtain ⟨hrel, hone⟩ := cells_rel hok hc
      have hpl := row_fits (s := bi.sz) h2
      have hvl : vc.cells.toList.length = sz := by rw [← hrel.1]; exact hlen
      have hst := run_storeCells_fr P bi.B (bi.o + i * bi.sz + j) e lo hi vc.cells.toList 0 cur w hcur (by rw [hvl]; simp only [Nat.add_zero]; omega) (by rw [hsz]; exact frz_ok hfr) hone
      simp only [Nat.add_zero] at hst
      have hu := setRow_upd hx hcur (cur.toList.take (bi.o + (i * bi.sz + j)) ++ vc.cells.toList ++ cur.toList.drop (bi.o + (i * bi.sz + j) + vc.cells.toList.length)).toArray (bi' := bi) rfl (.inl rfl)
      have hs := hu.stp hH.own
      have hfl := flat_len hl
      have hat' := cellsAt_splice hH hcur hat hrel hok (q := i * bi.sz + j) (by rw [hlen]; omega) (by omega) hs
      have hsp := splice_flat hl h2 (j := j) (cs := c.cells) (by rw [hlen]; omega)
      rw [← hsp] at hat'
      rw [Nat.add_assoc] at hst
      refine ⟨_, _, ?_, hu.hrel hH (brel_rows hg hss (setRow_heap w bi.B cur _ e _ hcur) ?_ hfr (len_set hl (by rw [splice_len (by rw [hlen, hrl]; omega)]; exact hrl)) (by simpa using hle) hat'), hs⟩
      · have hne : vc.cells.size = sz := by simpa using hvl
        simp only [Instr.storeAt, Instr.sureAddr, storeVar, Sem.run_bind, Sem.run_pure, Result.andThen_ok, ht, hne, ne_eq, not_true_eq_false, if_false]
        rw [Nat.add_assoc]
        exact hst
      · simp only [List.size_toArray, List.length_append, List.length_take, List.length_drop, Array.length_toList, hvl]
        omega
    · cases h3

end Go.Ab

/-
  New blocks, append, copy, make, conversions between strings and bytes: under the relation.
  Conditions: none.
-/
namespace Go.Ab

theorem okRow_all {rs : List Row} (h : ∀ row ∈ rs, okRow row = true) : okRow rs.flatten = true := by
  simp only [okRow, List.all_eq_true, List.mem_flatten] at *
  rintro x ⟨row, hr, hx⟩
  exact h row hr x hx

theorem VRels.nil (X : Ctx) (w : World) : VRels X w [] [] := ⟨rfl, by simp⟩

theorem VRels.append {X : Ctx} {w : World} {as bs : List AV} {us vs : List Value} (h1 : VRels X w as us) (h2 : VRels X w bs vs) : VRels X w (as ++ bs) (us ++ vs) := by
  refine ⟨by simp [h1.1, h2.1], fun i c v hc hv => ?_⟩
  by_cases h : i < as.length
  · rw [List.getElem?_append_left h] at hc
    rw [List.getElem?_append_left (by rw [← h1.1]; exact h)] at hv
    exact h1.2 i c v hc hv
  · rw [List.getElem?_append_right (by omega)] at hc
    rw [List.getElem?_append_right (by rw [← h1.1]; omega), ← h1.1] at hv
    exact h2.2 _ c v hc hv

theorem VRels.cons {X : Ctx} {w : World} {a : AV} {u : Value} {as : List AV} {us : List Value} (h : VRel X w a u) (hs : VRels X w as us) : VRels X w (a :: as) (u :: us) := by
  refine ⟨by simp [hs.1], fun i c v hc hv => ?_⟩
  cases i with
  | zero => simp at hc hv; subst hc; subst hv; exact h
  | succ i => simp at hc hv; exact hs.2 i c v hc hv

/-- A new block of cells. -/
theorem new_ok {X : Ctx} {H : Heap} {w w1 : World} (hH : HRel X H w) (hw : ∃ n, w1 = { w with drawn := n }) (e : TypeId) {rs : List Row} {s : Nat} (hl : ∀ row ∈ rs, row.length = s)
    {vs : List Value} (hv : VRels X w rs.flatten vs) (hok : okRow rs.flatten = true) (more : List Value) {lo hi : Nat} (hfr : Frz (vs.length + more.length) lo hi) :
    ∃ X' bi, X'.blk H.length = some bi ∧ bi.g = 0 ∧ bi.B = w.heap.size ∧ bi.o = 0 ∧ bi.sz = s ∧ bi.cs = vs.length + more.length ∧
      HRel X' (H ++ [.rows 0 s rs]) (w1.alloc (.cells (vs ++ more).toArray e (lo, hi))) ∧ Stp X w X' (w1.alloc (.cells (vs ++ more).toArray e (lo, hi))) := by
  obtain ⟨dn, rfl⟩ := hw
  let bi : BI := ⟨0, w.heap.size, 0, s, vs.length + more.length⟩
  have hu : New X w H.length bi (World.alloc { w with drawn := dn } (.cells (vs ++ more).toArray e (lo, hi))) :=
    { free := hH.free (Nat.le_refl _), top := hH.top, size := by simp, os := rfl, tape := rfl, output := rfl
      others := fun b hb => heap_alloc_old { w with drawn := dn } _ b hb
      place := Nat.le_refl _, lt := by simp [bi] }
  have hs := hu.stp
  have hnew := heap_alloc_new { w with drawn := dn } (.cells (vs ++ more).toArray e (lo, hi))
  refine ⟨_, bi, by simp [Ctx.set], rfl, rfl, rfl, rfl, rfl, hu.hrel hH ?_, hs⟩
  have hfl := flat_len hl
  have hvl := hv.1
  refine brel_rows rfl rfl hnew (by simp [bi]) ?_ hl ?_ ?_
  · exact hfr
  · simp only [bi]; omega
  · intro k c hk
    have hkl := (List.getElem?_eq_some_iff.1 hk).1
    obtain ⟨v, hv'⟩ : ∃ v, vs[k]? = some v := ⟨vs[k]'(by omega), by simp⟩
    refine ⟨v, ?_, ?_, (hv.2 k c v hk hv').step hH hs⟩
    · rw [cell_of_row _ _ _ _ _ _ hnew]
      simp only [bi, Nat.zero_add, List.getElem?_toArray]
      rw [List.getElem?_append_left (by omega)]
      exact hv'
    · exact (List.all_eq_true.1 hok) c (List.mem_of_getElem? hk)

theorem flatten_ones {α β : Type} (l : List α) (f : α → β) : (l.map fun b => [f b]).flatten = l.map f := by
  induction l with
  | nil => rfl
  | cons x xs ih => simp [ih]

theorem sub_cells {X : Ctx} {w : World} {b o sz : Nat} {rs : List Row} (hl : ∀ row ∈ rs, row.length = sz) {i n : Nat} (hle : i + n ≤ rs.length) (hat : CellsAt X w b o rs.flatten) :
    CellsAt X w b (o + i * sz) ((rs.drop i).take n).flatten := by
  have e1 : rs.flatten = (rs.take i).flatten ++ (rs.drop i).flatten := by rw [← List.flatten_append, List.take_append_drop]
  have e2 : (rs.drop i).flatten = ((rs.drop i).take n).flatten ++ ((rs.drop i).drop n).flatten := by rw [← List.flatten_append, List.take_append_drop]
  rw [e1, e2] at hat
  have := hat.right.left
  rwa [flat_len (s := sz) (fun row hr => hl row (List.mem_of_mem_take hr)), List.length_take, Nat.min_eq_left (by omega)] at this

/-- What an append, a copy or a conversion reads. -/
theorem elems_ok {X : Ctx} {H : Heap} {w : World} (hH : HRel X H w) {c : AV} {v : Value} (hv : VRel X w c v) {rows : List Row} (he : elems H c = some rows) (P : Program) {sz : Nat}
    (hsz : ∀ row ∈ rows, row.length = sz) :
    (Builtin.lenOf v).run P w = .ok rows.length w ∧ okRow rows.flatten = true ∧
    ∀ n, n ≤ rows.length → ∃ vs : List Value, (Builtin.firstCells sz n v).run P w = .ok vs.toArray w ∧ VRels X w (rows.take n).flatten vs ∧ ∀ u ∈ vs, u.oneCell' = true := by
  have key : ∀ (a : Addr) (cap : Nat), v = .slice (some a) rows.length cap → (0 < rows.length → a.spot = none) → CellsAt X w a.block a.off rows.flatten →
      (Builtin.lenOf v).run P w = .ok rows.length w ∧ okRow rows.flatten = true ∧
      ∀ n, n ≤ rows.length → ∃ vs : List Value, (Builtin.firstCells sz n v).run P w = .ok vs.toArray w ∧ VRels X w (rows.take n).flatten vs ∧ ∀ u ∈ vs, u.oneCell' = true := by
    rintro a cap rfl hsp hc
    refine ⟨by simp [Builtin.lenOf], ?_, fun n hn => ?_⟩
    · simp only [okRow, List.all_eq_true]
      intro x hx
      obtain ⟨k, hk⟩ := List.mem_iff_getElem?.1 hx
      obtain ⟨_, _, h, _⟩ := hc k x hk
      exact h
    · have hfl : (rows.take n).flatten.length = n * sz := by
        rw [flat_len (s := sz) (fun row hr => hsz row (List.mem_of_mem_take hr))]
        simp; rw [Nat.min_eq_left hn]
      have hpre : rows.flatten = (rows.take n).flatten ++ (rows.drop n).flatten := by rw [← List.flatten_append, List.take_append_drop]
      have hc' : CellsAt X w a.block a.off (rows.take n).flatten := by rw [hpre] at hc; exact hc.left
      obtain ⟨vs, h1, h2, h3, h4⟩ := hc'.values
      refine ⟨vs, ?_, h3, h4⟩
      by_cases h0 : 0 < rows.length
      · have ha : a = ⟨a.block, a.off, none⟩ := by cases a; simp at hsp; simp [hsp h0]
        have := run_loadCells_list (P := P) w a vs (fun k u hk => by rw [ha, addr_add]; exact h2 k u hk)
        rw [h1, hfl] at this
        simpa [Builtin.firstCells] using this
      · have hn0 : n = 0 := by omega
        subst hn0
        have hvs : vs = [] := List.eq_nil_of_length_eq_zero (by rw [h1, hfl]; simp)
        subst hvs
        simp [Builtin.firstCells, loadCells, loadCellsFrom]
  cases hv <;> simp only [elems, Option.bind_eq_some_iff, reduceCtorEq, Option.some.injEq] at he
  case str s t h =>
    subst he
    subst h
    have hsize : t.size = t.data.toList.length := by simp
    refine ⟨by simp [Builtin.lenOf], ?_, fun n hn => ?_⟩
    · exact okRow_all (by intro row hr; simp at hr; obtain ⟨b, _, rfl⟩ := hr; rfl)
    · refine ⟨(t.data.toList.take n).map fun b => .int .u8 b.toNat, ?_, ?_, ?_⟩
      · simp only [Builtin.firstCells, Sem.run_pure]
        congr 1
        apply Array.ext'
        simp only [Array.toList_map]
        congr 1
        simp [ByteArray.data_extract, Array.toList_extract, List.extract_eq_take_drop]
      · rw [← List.map_take, flatten_ones]
        refine ⟨by simp, fun i c v hc hv => ?_⟩
        simp only [List.getElem?_map, Option.map_eq_some_iff] at hc hv
        obtain ⟨b, hb, rfl⟩ := hc
        obtain ⟨b', hb', rfl⟩ := hv
        rw [hb] at hb'
        cases hb'
        exact .int
      · intro u hu
        obtain ⟨b, _, rfl⟩ := List.mem_map.1 hu
        rfl
  case nils =>
    subst he
    exact ⟨by simp [Builtin.lenOf], rfl, fun n hn => ⟨[], by simp [Builtin.firstCells], by simpa using VRels.nil X w, by simp⟩⟩
  case islice0 =>
    subst he
    exact ⟨by simp [Builtin.lenOf], rfl, fun n hn => ⟨[], by simp [Builtin.firstCells], by simpa using VRels.nil X w, by simp⟩⟩
  case islice =>
    rename_i rws n a cap s f hn hcap hl hc hv ho
    subst he
    subst hn
    refine key a cap rfl (fun h => (ho h).2.1) ((rows_flat hl).1 (fun i row j c h1 h2 => ⟨f i j, (hc i row j c h1 h2).1, (hc i row j c h1 h2).2, hv i row j c h1 h2⟩))
  case slice =>
    rename_i r g i n a cap bi hx hg hcap ha
    obtain ⟨rs, h1, h2⟩ := he
    unfold req at h2
    split at h2
    · rename_i hle
      cases h2
      obtain ⟨ss, hb⟩ := Heap.rowsOf_some h1
      obtain ⟨⟨hg', _⟩, _, hl, _, hat⟩ := (hH.at hb hx).cellsAt
      obtain ⟨ha1, ha2⟩ := ha hg'
      have hlen : ((rs.drop i).take n).length = n := by simp; omega
      have hsub := sub_cells hl hle hat
      by_cases h0 : 0 < cap
      · have := ha1 h0
        subst this
        exact key _ cap (by rw [hlen]) (fun _ => rfl) hsub
      · have hn0 : n = 0 := by omega
        subst hn0
        exact key a cap (by simp) (by simp) (by simp; intro k c hk; simp at hk)
    · cases h2

/-- What the tables say of a slice's type. -/
structure ElemOk (P : Program) (t e : TypeId) (i : TypeInfo) (z : Value) (sz bytes : Nat) : Prop where
  und : P.underlying t = some (.slice e)
  info : P.info? e = some i
  zero : i.zero = some z
  hsize : i.size = sz
  hbytes : i.bytes = bytes
  zsize : z.cells.size = sz
  pos : 0 < sz
  bpos : 0 < bytes

theorem run_append_room' {P : Program} {w : World} {t t2 ty e : TypeId} {i : TypeInfo} {z : Value} {sz bytes : Nat} (E : ElemOk P t e i z sz bytes) {d2 : TypeDesc} (h2 : P.underlying t2 = some d2) (hd2 : (∃ e', d2 = .slice e') ∨ d2 = .string)
    {a : Addr} {sLen sCap m : Nat} {x : Value} (hx : (Builtin.lenOf x).run P w = .ok m w) {vs : List Value} (hf : (Builtin.firstCells sz m x).run P w = .ok vs.toArray w) (hroom : sLen + m ≤ sCap) {w' : World}
    (hst : (storeCells (a.add (sLen * sz)) vs).run P w = .ok () w') :
    (Builtin.append_ #[t, t2] ty #[.slice (some a) sLen sCap, x]).run P w = .ok (.slice (some a) (sLen + m) sCap) w' := by
  have hs : (sizeOf e).run P w = .ok sz w := by simp [sizeOf, typeInfo, E.info, E.hsize]
  rcases hd2 with ⟨e', rfl⟩ | rfl <;> simp [Builtin.append_, run_underlying E.und, run_underlying h2, hs, hx, hf, hroom, hst]

theorem run_append_grow' {P : Program} {w : World} {t t2 ty e : TypeId} {i : TypeInfo} {z : Value} {sz bytes : Nat} (E : ElemOk P t e i z sz bytes) {d2 : TypeDesc} (h2 : P.underlying t2 = some d2) (hd2 : (∃ e', d2 = .slice e') ∨ d2 = .string)
    {base : Option Addr} {sLen sCap m : Nat} {x : Value} (hx : (Builtin.lenOf x).run P w = .ok m w) {os vs : List Value} (ho : (Builtin.firstCells sz sLen (.slice base sLen sCap)).run P w.drew = .ok os.toArray w.drew)
    (hf : (Builtin.firstCells sz m x).run P w.drew = .ok vs.toArray w.drew) (hroom : sCap < sLen + m) (hfit : (sLen + m) * bytes ≤ roomB) (hlen : sLen + m ≤ 9223372036854775807) :
    (Builtin.append_ #[t, t2] ty #[.slice base sLen sCap, x]).run P w = .ok (.slice (some ⟨w.heap.size, 0, none⟩) (sLen + m) (grownCap w (sLen + m) sCap e))
      (w.drew.alloc (.cells (os ++ (vs ++ (Builtin.zeroCells z.cells (grownCap w (sLen + m) sCap e - (sLen + m))).toList)).toArray e)) := by
  have hs : ∀ w, (sizeOf e).run P w = .ok sz w := by intro w; simp [sizeOf, typeInfo, E.info, E.hsize]
  have h1 : ¬ (sLen + m ≤ sCap) := by omega
  have h63 : ¬ (9223372036854775807 < (sLen + m : Nat)) := by omega
  have h48 : ¬ (281474976710656 < Builtin.nextslicecap (sLen + m) sCap * bytes) := by have := growslice_fits hroom hfit; omega
  have hti : ∀ w, (typeInfo e).run P w = .ok i w := by intro w; simp [typeInfo, E.info]
  have hzv : ∀ w, (zeroValue e).run P w = .ok z w := by intro w; simp [zeroValue, typeInfo, E.info, E.zero]
  have hb := E.hbytes
  have h63i : ¬ ((9223372036854775807 : Int) < ((sLen : Int) + (m : Int))) := by omega
  rcases hd2 with ⟨e', rfl⟩ | rfl <;> simp [Builtin.append_, run_underlying E.und, run_underlying h2, hs, hx, h1, hti, hzv, hb, h48, h63i, Question.forced, newRow, ho, hf, grownCap] <;> (congr 2; apply Array.ext'; simp)


theorem run_append_none {P : Program} {w : World} {t t2 ty e : TypeId} {i : TypeInfo} {z : Value} {sz bytes : Nat} (E : ElemOk P t e i z sz bytes) {d2 : TypeDesc} (h2 : P.underlying t2 = some d2) (hd2 : (∃ e', d2 = .slice e') ∨ d2 = .string)
    {x : Value} (hx : (Builtin.lenOf x).run P w = .ok 0 w) {vs : List Value} (hf : (Builtin.firstCells sz 0 x).run P w = .ok vs.toArray w) :
    (Builtin.append_ #[t, t2] ty #[.slice none 0 0, x]).run P w = .ok (.slice none 0 0) w := by
  have hs : (sizeOf e).run P w = .ok sz w := by simp [sizeOf, typeInfo, E.info, E.hsize]
  rcases hd2 with ⟨e', rfl⟩ | rfl <;> simp [Builtin.append_, run_underlying E.und, run_underlying h2, hs, hx, hf]

theorem size_zc (z : Array Value) (n : Nat) : (Builtin.zeroCells z n).size = n * z.size := by simp [Builtin.zeroCells]

/-- Growth into a new block: what stands behind it. -/
theorem grow_ok {X : Ctx} {H : Heap} {w : World} (hH : HRel X H w) {P : Program} {t e : TypeId} {i : TypeInfo} {z : Value} {sz bytes : Nat} (E : ElemOk P t e i z sz bytes)
    {rs : List Row} (hl : ∀ row ∈ rs, row.length = sz) {vs : List Value} (hv : VRels X w rs.flatten vs) (hok : okRow rs.flatten = true) (need cap : Nat) (hn : need = rs.length) (hc : need ≤ cap) :
    ∃ X' bi, X'.blk H.length = some bi ∧ bi.g = 0 ∧ bi.B = w.heap.size ∧ bi.o = 0 ∧ bi.sz = sz ∧ bi.cs = cap * sz ∧
      HRel X' (H ++ [.rows 0 sz rs]) (w.drew.alloc (.cells (vs ++ (Builtin.zeroCells z.cells (cap - need)).toList).toArray e)) ∧
      Stp X w X' (w.drew.alloc (.cells (vs ++ (Builtin.zeroCells z.cells (cap - need)).toList).toArray e)) := by
  obtain ⟨X', bi, h1, h2, h3, h4, h5, h6, h7, h8⟩ := new_ok hH (w1 := w.drew) ⟨w.drawn + 1, rfl⟩ e hl hv hok (Builtin.zeroCells z.cells (cap - need)).toList (lo := 0) (hi := 0) (.inl rfl)
  refine ⟨X', bi, h1, h2, h3, h4, h5, ?_, h7, h8⟩
  rw [h6, ← hv.1, flat_len hl, ← hn]
  simp only [Array.length_toList, size_zc, E.zsize]
  rw [← Nat.add_mul]
  congr 1
  omega

/-- A slice that has grown within its own block, or into a new one. -/
theorem append_ok {X : Ctx} {H H' : Heap} {w : World} (hH : HRel X H w) {s x c : AV} {vs vx : Value} (hs : VRel X w s vs) (hx : VRel X w x vx) {P : Program} {t t2 ty e : TypeId} {i : TypeInfo} {z : Value} {sz bytes : Nat}
    (E : ElemOk P t e i z sz bytes) {d2 : TypeDesc} (h2 : P.underlying t2 = some d2) (hd2 : (∃ e', d2 = .slice e') ∨ d2 = .string) (he : appendAV H sz bytes s x = some (c, H')) :
    ∃ v' w' X', (Builtin.append_ #[t, t2] ty #[vs, vx]).run P w = .ok v' w' ∧ VRel X' w' c v' ∧ HRel X' H' w' ∧ Stp X w X' w' := by
  simp only [appendAV, Option.bind_eq_some_iff] at he
  obtain ⟨news, hn, he⟩ := he
  unfold req at he
  split at he
  case isFalse => cases he
  rename_i hsz
  obtain ⟨hlen, hok, hcells⟩ := elems_ok hH hx hn P hsz
  obtain ⟨nv, hnv, hnr, hn1⟩ := hcells news.length (Nat.le_refl _)
  rw [List.take_length] at hnr
  obtain ⟨_, _, hcells'⟩ := elems_ok (w := w.drew) (HRel.drawn hH) hx.drawn hn P hsz
  obtain ⟨nv', hnv', hnr', hn1'⟩ := hcells' news.length (Nat.le_refl _)
  rw [List.take_length] at hnr'
  have roomLen : ∀ n : Nat, n * bytes ≤ roomB → n ≤ 9223372036854775807 := by
    intro n hn
    have h1 : n * 1 ≤ n * bytes := Nat.mul_le_mul_left _ E.bpos
    simp only [roomB] at hn
    omega
  cases hs <;> simp only [reduceCtorEq] at he
  case nils =>
    cases news with
    | nil =>
      simp only [Option.some.injEq, Prod.mk.injEq] at he
      obtain ⟨rfl, rfl⟩ := he
      exact ⟨_, w, X, run_append_none E h2 hd2 hlen hnv, .nils, hH, Stp.refl _ _⟩
    | cons row rest =>
      simp only at he
      split at he
      case isFalse => cases he
      rename_i hfit
      simp only [Option.some.injEq, Prod.mk.injEq] at he
      obtain ⟨rfl, rfl⟩ := he
      have hg := run_append_grow' (ty := ty) E h2 hd2 (base := none) (sLen := 0) (sCap := 0) hlen (os := []) (by simp [Builtin.firstCells]) hnv' (by simp) (by simpa using hfit) (by simpa using roomLen _ hfit)
      simp only [Nat.zero_add, List.nil_append] at hg
      have hge := grownCap_ge w (row :: rest).length 0 e
      obtain ⟨X', bi, k1, k2, k3, k4, k5, k6, k7, k8⟩ := grow_ok hH E hsz (vs := nv') ⟨hnr'.1, fun i c v a b => by have := hnr'.2 i c v a b; exact this.drawn (n := w.drawn)⟩ hok _ (grownCap w (row :: rest).length 0 e) rfl hge
      refine ⟨_, _, X', hg, ?_, k7, k8⟩
      refine .slice k1 (by omega) hge (fun _ => ⟨fun _ => by rw [k3, k4]; simp, ?_⟩)
      rw [k4, k5, k6]
      simp
  case islice0 =>
    cases news with
    | cons row rest => simp at he
    | nil =>
      simp only [Option.some.injEq, Prod.mk.injEq] at he
      obtain ⟨rfl, rfl⟩ := he
      exact ⟨_, w, X, run_append_none E h2 hd2 hlen hnv, .islice0, hH, Stp.refl _ _⟩
  case islice =>
    rename_i rws n a cap s' f h1 h3 h4 h5 h6 h7
    cases news with
    | cons row rest => simp at he
    | nil =>
      simp only [Option.some.injEq, Prod.mk.injEq] at he
      obtain ⟨rfl, rfl⟩ := he
      have hnv0 : nv = [] := List.eq_nil_of_length_eq_zero (by rw [← hnr.1]; rfl)
      subst hnv0
      have := run_append_room' (ty := ty) E h2 hd2 (a := a) (sLen := n) (sCap := cap) hlen hnv (by simpa using h3) (w' := w) (by simp [storeCells])
      exact ⟨_, w, X, this, .islice f h1 h3 h4 h5 h6 h7, hH, Stp.refl _ _⟩
  case slice =>
    rename_i r g ix n a cap bi hb hg hcap ha
    simp only [Option.bind_eq_some_iff] at he
    obtain ⟨⟨ss, rs⟩, hrs, he⟩ := he
    split at he
    case isFalse => cases he
    rename_i hreq
    obtain ⟨hss, hle, hfit⟩ := hreq
    have hblk := Heap.blkOf_some hrs
    simp only at hss hle hblk
    subst hss
    have hbr := hH.at hblk hb
    obtain ⟨⟨hgg, hszz⟩, ⟨cur, ce, lo, hi, hcur, hcsz, hfr⟩, hl, hrl, hat⟩ := hbr.cellsAt
    subst hszz
    obtain ⟨ha1, ha2⟩ := ha hgg
    cases news with
    | nil =>
      simp only [Option.some.injEq, Prod.mk.injEq] at he
      obtain ⟨rfl, rfl⟩ := he
      have hnv0 : nv = [] := List.eq_nil_of_length_eq_zero (by rw [← hnr.1]; rfl)
      subst hnv0
      have := run_append_room' (ty := ty) E h2 hd2 (a := a) (sLen := n) (sCap := cap) hlen hnv (by simpa using hcap) (w' := w) (by simp [storeCells])
      exact ⟨_, w, X, this, .slice hb hg hcap ha, hH, Stp.refl _ _⟩
    | cons row rest =>
      simp only [Option.some.injEq, Prod.mk.injEq] at he
      obtain ⟨rfl, rfl⟩ := he
      have hlk : ∀ x ∈ (rs.drop ix).take n, x.length = bi.sz := fun x hx => hl x (List.mem_of_mem_drop (List.mem_of_mem_take hx))
      have hlen1 : ((rs.drop ix).take n).length = n := by simp; omega
      have hold := sub_cells hl hle hat
      have hfo := flat_len hlk
      rw [hlen1] at hfo
      have hln : ∀ x ∈ (rs.drop ix).take n ++ row :: rest, x.length = bi.sz := by
        intro x hx
        rcases List.mem_append.1 hx with h | h
        · exact hlk x h
        · exact hsz x h
      have hfn := flat_len hsz
      have hnl := hnr.1
      by_cases hroom : n + (row :: rest).length ≤ cap
      · have hcap0 : 0 < cap := by simp at hroom; omega
        have hae := ha1 hcap0
        subst hae
        have hmul : (n + (row :: rest).length) * bi.sz ≤ cap * bi.sz := Nat.mul_le_mul_right _ hroom
        rw [Nat.add_mul] at hmul ha2
        have hst := run_storeCells_fr P bi.B (bi.o + ix * bi.sz + n * bi.sz) ce lo hi nv 0 cur w hcur (by rw [← hnl, hfn]; simp only [Nat.add_zero]; omega) (by rw [hcsz]; exact frz_ok hfr) hn1
        simp only [Nat.add_zero] at hst
        have hu := setRow_upd hb hcur (cur.toList.take (bi.o + ix * bi.sz + n * bi.sz) ++ nv ++ cur.toList.drop (bi.o + ix * bi.sz + n * bi.sz + nv.length)).toArray
          (bi' := ⟨bi.g + 1, bi.B, bi.o + ix * bi.sz, bi.sz, bi.cs⟩) rfl (.inr (by simp))
        have hsp := hu.stp hH.own
        have hat' := cellsAt_splice hH hcur hold hnr hok (q := n * bi.sz) (by rw [hfn]; omega) (by omega) hsp
        have e1 : ((rs.drop ix).take n).flatten.take (n * bi.sz) = ((rs.drop ix).take n).flatten := List.take_of_length_le (by omega)
        have e2 : ((rs.drop ix).take n).flatten.drop (n * bi.sz + (row :: rest).flatten.length) = [] := List.drop_eq_nil_of_le (by omega)
        rw [e1, e2, List.append_nil, ← List.flatten_append] at hat'
        have hrun := run_append_room' (ty := ty) E h2 hd2 (a := ⟨bi.B, bi.o + ix * bi.sz, none⟩) (sLen := n) (sCap := cap) hlen hnv hroom (by rw [addr_add]; exact hst)
        refine ⟨_, _, _, hrun, ?_, hu.hrel hH (brel_rows (by simp [hgg]) rfl (setRow_heap w bi.B cur _ ce _ hcur) ?_ hfr hln ?_ hat'), hsp⟩
        · refine .slice (bi := ⟨bi.g + 1, bi.B, bi.o + ix * bi.sz, bi.sz, bi.cs⟩) (by simp [Ctx.set]) (by simp only; omega) hroom (fun _ => ⟨fun _ => by simp, ?_⟩)
          simp only [Nat.zero_add]
          omega
        · simp only [List.size_toArray, List.length_append, List.length_take, List.length_drop, Array.length_toList, ← hnl, hfn]
          omega
        · simp only [List.length_append, hlen1]
          rw [Nat.add_mul] 
          omega
      · obtain ⟨os, ho1, ho2, ho3, ho4⟩ := hold.values
        have hold' : (Builtin.firstCells bi.sz n (.slice (some a) n cap)).run P w.drew = .ok os.toArray w.drew := by
          by_cases h0 : 0 < cap
          · have hae := ha1 h0
            subst hae
            have := run_loadCells_list (P := P) w.drew ⟨bi.B, bi.o + ix * bi.sz, none⟩ os (fun k u hk => by rw [addr_add]; exact ho2 k u hk)
            rw [ho1, hfo] at this
            simp only [Builtin.firstCells]
            exact this
          · have hn0 : n = 0 := by omega
            subst hn0
            have : os = [] := List.eq_nil_of_length_eq_zero (by rw [ho1, hfo]; simp)
            subst this
            simp [Builtin.firstCells, loadCells, loadCellsFrom]
        have hg' := run_append_grow' (ty := ty) E h2 hd2 (base := some a) (sLen := n) (sCap := cap) hlen hold' hnv' (by omega) hfit (roomLen _ hfit)
        have hge := grownCap_ge w (n + (row :: rest).length) cap e
        generalize grownCap w (n + (row :: rest).length) cap e = ncap at hg' hge
        rw [← List.append_assoc] at hg'
        have hvall : VRels X w ((rs.drop ix).take n ++ row :: rest).flatten (os ++ nv') := by
          rw [List.flatten_append]
          exact ho3.append ⟨hnr'.1, fun i c v a b => (hnr'.2 i c v a b).drawn (n := w.drawn)⟩
        have hokall : okRow ((rs.drop ix).take n ++ row :: rest).flatten = true := by
          rw [List.flatten_append]
          unfold okRow at hok ⊢
          rw [List.all_append, hok, Bool.and_true, List.all_eq_true]
          intro x hx
          obtain ⟨k, hk⟩ := List.mem_iff_getElem?.1 hx
          obtain ⟨_, _, h, _⟩ := hold k x hk
          exact h
        let bi' : BI := ⟨bi.g + 1, w.heap.size, 0, bi.sz, ncap * bi.sz⟩
        have hzl : (Builtin.zeroCells z.cells (ncap - (n + (row :: rest).length))).toList.length = (ncap - (n + (row :: rest).length)) * bi.sz := by rw [Array.length_toList, size_zc, E.zsize]
        have hos : (os ++ nv').length = (n + (row :: rest).length) * bi.sz := by
          rw [List.length_append, ho1, hfo, ← hnr'.1, hfn, Nat.add_mul]
        have hcells : ((os ++ nv') ++ (Builtin.zeroCells z.cells (ncap - (n + (row :: rest).length))).toList).length = ncap * bi.sz := by
          rw [List.length_append, hos, hzl, ← Nat.add_mul]
          congr 1
          omega
        have hu : Upd X w r bi bi' (w.drew.alloc (.cells ((os ++ nv') ++ (Builtin.zeroCells z.cells (ncap - (n + (row :: rest).length))).toList).toArray e)) :=
          { was := hb, size := by simp, os := rfl, tape := rfl, output := rfl, others := fun b h _ => heap_alloc_old w.drew _ b h
            later := .inr (by simp [bi']), place := .inr (Nat.le_refl _), lt := by simp [bi'] }
        have hsp := hu.stp hH.own
        have hnew := heap_alloc_new w.drew (.cells ((os ++ nv') ++ (Builtin.zeroCells z.cells (ncap - (n + (row :: rest).length))).toList).toArray e)
        refine ⟨_, _, _, hg', ?_, hu.hrel hH (brel_rows (by simp [bi', hgg]) rfl hnew (by simpa [bi'] using hcells) (.inl rfl) hln ?_ ?_), hsp⟩
        · refine .slice (bi := bi') (by simp [Ctx.set]) (by simp [bi', hgg]) hge (fun _ => ⟨fun _ => by simp [bi'], by simp [bi']⟩)
        · simp only [bi', List.length_append, hlen1, Nat.zero_add]
          exact Nat.mul_le_mul_right _ hge
        · intro k c hk
          have hkl := (List.getElem?_eq_some_iff.1 hk).1
          rw [hvall.1] at hkl
          obtain ⟨v, hv'⟩ : ∃ v, (os ++ nv')[k]? = some v := ⟨(os ++ nv')[k]'hkl, by simp⟩
          refine ⟨v, ?_, ?_, (hvall.2 k c v hk hv').step hH hsp⟩
          · have hce := cell_of_row _ _ k _ _ _ hnew
            simp only [bi', Nat.zero_add]
            refine hce.trans ?_
            rw [List.getElem?_toArray]
            rw [List.getElem?_append_left hkl]
            exact hv'
          · exact (List.all_eq_true.1 hokall) c (List.mem_of_getElem? hk)

end Go.Ab
