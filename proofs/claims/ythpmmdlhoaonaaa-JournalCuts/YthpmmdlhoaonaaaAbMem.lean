/-
  Memory under the relation: rows of cells, loads, stores, new blocks, growth.
  Conditions: none.
-/
import Derived.Test.YthpmmdlhoaonaaaAbRel
import Derived.Laws.CopyRow
import Derived.Laws.Cells
import Derived.Laws.Append
import Derived.Laws.AppendOwn
import Derived.Laws.MakeOwn
namespace Go.Ab

theorem addr_add (b o k : Nat) : (⟨b, o, none⟩ : Addr).add k = ⟨b, o + k, none⟩ := by unfold Addr.add; split <;> simp_all

theorem flat_get {rs : List Row} {s : Nat} (hl : ∀ row ∈ rs, row.length = s) {i : Nat} {row : Row} (hi : rs[i]? = some row) {j : Nat} (hj : j < s) : rs.flatten[i * s + j]? = row[j]? := by
  induction rs generalizing i with
  | nil => simp at hi
  | cons r rest ih =>
    have hr : r.length = s := hl r (by simp)
    cases i with
    | zero =>
      simp at hi
      subst hi
      rw [Nat.zero_mul, Nat.zero_add, List.flatten_cons, List.getElem?_append_left (by omega)]
    | succ i =>
      simp at hi
      have := ih (fun x hx => hl x (by simp [hx])) hi
      rw [List.flatten_cons, List.getElem?_append_right (by rw [hr, Nat.succ_mul]; omega), hr, ← this]
      congr 1
      rw [Nat.succ_mul]
      omega

theorem flat_len {rs : List Row} {s : Nat} (hl : ∀ row ∈ rs, row.length = s) : rs.flatten.length = rs.length * s := by
  induction rs with
  | nil => simp
  | cons r rest ih =>
    simp only [List.flatten_cons, List.length_append, List.length_cons, hl r (by simp), ih (fun x hx => hl x (by simp [hx]))]
    rw [Nat.succ_mul]
    omega

theorem flat_inv {rs : List Row} {s : Nat} (hl : ∀ row ∈ rs, row.length = s) {k : Nat} {c : AV} (h : rs.flatten[k]? = some c) :
    ∃ i row j, rs[i]? = some row ∧ row[j]? = some c ∧ k = i * s + j ∧ j < s := by
  induction rs generalizing k with
  | nil => simp at h
  | cons r rest ih =>
    have hr : r.length = s := hl r (by simp)
    by_cases hk : k < s
    · rw [List.flatten_cons, List.getElem?_append_left (by omega)] at h
      exact ⟨0, r, k, by simp, h, by simp, hk⟩
    · rw [List.flatten_cons, List.getElem?_append_right (by omega)] at h
      obtain ⟨i, row, j, h1, h2, h3, h4⟩ := ih (fun x hx => hl x (by simp [hx])) h
      exact ⟨i + 1, row, j, by simpa using h1, h2, by rw [Nat.succ_mul]; omega, h4⟩

/-- These cells lie from (b, o) on. -/
def CellsAt (X : Ctx) (w : World) (b o : Nat) (cs : List AV) : Prop :=
  ∀ (k : Nat) c, cs[k]? = some c → ∃ v, w.cell? ⟨b, o + k, none⟩ = some v ∧ c.sc = true ∧ VRel X w c v

def RowsAt (X : Ctx) (w : World) (b o s : Nat) (rs : List Row) : Prop :=
  ∀ (i : Nat) row (j : Nat) c, rs[i]? = some row → row[j]? = some c → ∃ v, w.cell? ⟨b, o + i * s + j, none⟩ = some v ∧ c.sc = true ∧ VRel X w c v

theorem rows_flat {X : Ctx} {w : World} {b o s : Nat} {rs : List Row} (hl : ∀ row ∈ rs, row.length = s) : RowsAt X w b o s rs ↔ CellsAt X w b o rs.flatten := by
  constructor
  · intro h k c hk
    obtain ⟨i, row, j, h1, h2, h3, h4⟩ := flat_inv hl hk
    subst h3
    simpa [Nat.add_assoc] using h i row j c h1 h2
  · intro h i row j c h1 h2
    have hm : row ∈ rs := List.mem_of_getElem? h1
    have hj : j < s := by have := (List.getElem?_eq_some_iff.1 h2).1; rw [hl row hm] at this; exact this
    have := h (i * s + j) c (by rw [flat_get hl h1 hj]; exact h2)
    simpa [Nat.add_assoc] using this

theorem CellsAt.append {X : Ctx} {w : World} {b o : Nat} {as bs : List AV} (h1 : CellsAt X w b o as) (h2 : CellsAt X w b (o + as.length) bs) : CellsAt X w b o (as ++ bs) := by
  intro k c hk
  by_cases h : k < as.length
  · rw [List.getElem?_append_left h] at hk; exact h1 k c hk
  · rw [List.getElem?_append_right (by omega)] at hk
    have := h2 _ c hk
    rwa [show o + as.length + (k - as.length) = o + k by omega] at this

theorem CellsAt.left {X : Ctx} {w : World} {b o : Nat} {as bs : List AV} (h : CellsAt X w b o (as ++ bs)) : CellsAt X w b o as := by
  intro k c hk
  have := (List.getElem?_eq_some_iff.1 hk).1
  exact h k c (by rw [List.getElem?_append_left this]; exact hk)

theorem CellsAt.right {X : Ctx} {w : World} {b o : Nat} {as bs : List AV} (h : CellsAt X w b o (as ++ bs)) : CellsAt X w b (o + as.length) bs := by
  intro k c hk
  have := h (as.length + k) c (by rw [List.getElem?_append_right (by omega)]; simpa using hk)
  rwa [← Nat.add_assoc] at this

theorem CellsAt.drop {X : Ctx} {w : World} {b o n : Nat} {as : List AV} (h : CellsAt X w b o as) : CellsAt X w b (o + n) (as.drop n) := by
  intro k c hk
  rw [List.getElem?_drop] at hk
  have := h _ c hk
  rwa [← Nat.add_assoc] at this

theorem CellsAt.take {X : Ctx} {w : World} {b o n : Nat} {as : List AV} (h : CellsAt X w b o as) : CellsAt X w b o (as.take n) := by
  intro k c hk
  rw [List.getElem?_take] at hk
  split at hk
  · exact h k c hk
  · cases hk

/-- One value for each cell. -/
theorem CellsAt.values {X : Ctx} {w : World} {b o : Nat} {cs : List AV} (h : CellsAt X w b o cs) :
    ∃ vs : List Value, vs.length = cs.length ∧ (∀ (k : Nat) v, vs[k]? = some v → w.cell? ⟨b, o + k, none⟩ = some v) ∧ VRels X w cs vs ∧ ∀ v ∈ vs, v.oneCell' = true := by
  induction cs generalizing o with
  | nil => exact ⟨[], rfl, by simp, ⟨rfl, by simp⟩, by simp⟩
  | cons c cs ih =>
    obtain ⟨v, h1, h2, h3⟩ := h 0 c (by simp)
    obtain ⟨vs, k1, k2, k3, k4⟩ := ih (o := o + 1) (fun k c' hk => by
      have := h (k + 1) c' (by simpa using hk)
      rwa [show o + (k + 1) = o + 1 + k by omega] at this)
    refine ⟨v :: vs, by simp [k1], fun k u hk => ?_, ⟨by simp [k3.1], fun i c' u hc hu => ?_⟩, ?_⟩
    · cases k with
      | zero => simp at hk; subst hk; exact h1
      | succ k => simp at hk; have := k2 k u hk; rwa [show o + (k + 1) = o + 1 + k by omega]
    · cases i with
      | zero => simp at hc hu; subst hc; subst hu; exact h3
      | succ i => simp at hc hu; exact k3.2 i c' u hc hu
    · intro u hu
      simp at hu
      rcases hu with rfl | hu
      · cases h3 <;> first | rfl | (simp [AV.sc] at h2)
      · exact k4 u hu

theorem sc_one {X : Ctx} {w : World} {c : AV} {v : Value} (h : c.sc = true) (hv : VRel X w c v) : v.oneCell' = true ∧ v.cells = #[v] ∧ c.cells = [c] := by
  cases hv <;> first | exact ⟨rfl, rfl, rfl⟩ | (simp [AV.sc] at h)

theorem cells_rel {X : Ctx} {w : World} {c : AV} {v : Value} (hk : okRow c.cells = true) (hv : VRel X w c v) :
    VRels X w c.cells v.cells.toList ∧ ∀ u ∈ v.cells.toList, u.oneCell' = true := by
  have scal : c.sc = true → VRels X w c.cells v.cells.toList ∧ ∀ u ∈ v.cells.toList, u.oneCell' = true := by
    intro hs
    obtain ⟨h1, h2, h3⟩ := sc_one hs hv
    rw [h2, h3]
    refine ⟨⟨rfl, fun i a b ha hb => ?_⟩, by simpa using h1⟩
    cases i with
    | zero => simp at ha hb; subst ha; subst hb; exact hv
    | succ i => simp at ha
  cases hv with
  | agg hl hc =>
    rename_i cs vs
    refine ⟨⟨by simpa [AV.cells, Value.cells] using hl, fun i a b ha hb => hc i a b (by simpa [AV.cells] using ha) (by simpa [Value.cells] using hb)⟩, fun u hu => ?_⟩
    simp [Value.cells] at hu
    obtain ⟨i, hi⟩ := List.mem_iff_getElem?.1 hu
    have hi' := (List.getElem?_eq_some_iff.1 hi).1
    obtain ⟨c, hc'⟩ : ∃ c, cs[i]? = some c := ⟨cs[i]'(by omega), by simp [hl, hi']⟩
    have : c.sc = true := by
      simp [okRow, AV.cells] at hk
      exact hk c (List.mem_of_getElem? hc')
    exact (sc_one this (hc i c u hc' hi)).1
  | undef => simp [okRow, AV.cells, AV.sc] at hk
  | tup _ _ => simp [okRow, AV.cells, AV.sc] at hk
  | int => exact scal rfl
  | bool => exact scal rfl
  | str _ => exact scal rfl
  | nilp => exact scal rfl
  | ptr _ _ _ => exact scal rfl
  | iptr => exact scal rfl
  | nils => exact scal rfl
  | slice => exact scal rfl
  | islice0 => exact scal rfl
  | islice => exact scal rfl
  | func => exact scal rfl
  | nilf => exact scal rfl
  | nilmap => exact scal rfl
  | map => exact scal rfl
  | iface => exact scal rfl
  | nilI => exact scal rfl

theorem run_storeCells_fr (P : Program) (g o : Nat) (t : TypeId) (lo hi : Nat) : ∀ (vs : List Value) (i : Nat) (cur : Array Value) (w : World), w.heap[g]? = some (.cells cur t (lo, hi)) →
    o + i + vs.length ≤ cur.size → (∀ x, x < cur.size → ¬(lo ≤ x ∧ x < hi)) → (∀ v ∈ vs, v.oneCell' = true) →
    (storeCells ⟨g, o, none⟩ vs i).run P w = .ok () (w.setRow g (cur.toList.take (o + i) ++ vs ++ cur.toList.drop (o + i + vs.length)).toArray)
  | [], i, cur, w, hg, _, _, _ => by
    simp only [storeCells, List.append_nil, List.length_nil, Nat.add_zero, List.take_append_drop, Array.toArray_toList]
    rw [setRow_self w g cur t (lo, hi) hg]
    rfl
  | v :: rest, i, cur, w, hg, hl, hf, h1 => by
    have hi : o + i < cur.size := by simp at hl; omega
    have hadd : (⟨g, o, none⟩ : Addr).add i = ⟨g, o + i, none⟩ := by unfold Addr.add; split <;> simp_all
    have hcell : w.cell? ⟨g, o + i, none⟩ = some cur[o + i] := by simp [World.cell?, hg, hi]
    have hfro : w.frozen? ⟨g, o + i, none⟩ = false := by
      have := hf (o + i) hi
      simp only [World.frozen?, hg]
      simp only [Bool.and_eq_false_iff, decide_eq_false_iff_not]
      omega
    have hst : (store ((⟨g, o, none⟩ : Addr).add i) v).run P w = .ok () (w.setRow g (cur.setIfInBounds (o + i) v)) := by
      rw [hadd, run_store P w _ v _ (h1 v (by simp)), hcell]
      simp [hfro, setCell_eq_setRow w g (o + i) cur t _ v hg]
    have ih := run_storeCells_fr P g o t lo _ rest (i + 1) (cur.setIfInBounds (o + i) v) (w.setRow g (cur.setIfInBounds (o + i) v)) (setRow_heap w g cur _ t _ hg) (by simp at hl ⊢; omega)
      (fun x hx => hf x (by simpa using hx)) (fun x hx => h1 x (by simp [hx]))
    simp only [storeCells, Sem.run_bind, hst, Result.andThen_ok, ih, setRow_setRow]
    congr 3
    have e := list_seg_step cur.toList (o + i) v rest (by simp at hl ⊢; omega)
    simpa [Array.toList_setIfInBounds, Nat.add_assoc] using e


/-! ### what the relation gives at a place -/
theorem BRel.cellsAt {X : Ctx} {w : World} {bi : BI} {g s : Nat} {rs : List Row} (h : BRel X w bi (.rows g s rs)) :
    (g = bi.g ∧ s = bi.sz) ∧ (∃ c e lo hi, w.heap[bi.B]? = some (.cells c e (lo, hi)) ∧ c.size = bi.cs ∧ Frz bi.cs lo hi) ∧
    (∀ row ∈ rs, row.length = bi.sz) ∧ bi.o + rs.length * bi.sz ≤ bi.cs ∧ CellsAt X w bi.B bi.o rs.flatten := by
  cases h with
  | rows h1 hs h2 h3 h4 h5 h6 h7 => exact ⟨⟨h1, hs⟩, ⟨_, _, _, _, h2, h3, h4⟩, h5, h6, (rows_flat h5).1 h7⟩

theorem brel_rows {X : Ctx} {w : World} {bi : BI} {g s : Nat} {rs : List Row} {c : Array Value} {e : TypeId} {lo hi : Nat} (h1 : g = bi.g) (hs : s = bi.sz) (h2 : w.heap[bi.B]? = some (.cells c e (lo, hi)))
    (h3 : c.size = bi.cs) (h4 : Frz bi.cs lo hi) (h5 : ∀ row ∈ rs, row.length = bi.sz) (h6 : bi.o + rs.length * bi.sz ≤ bi.cs) (h7 : CellsAt X w bi.B bi.o rs.flatten) :
    BRel X w bi (.rows g s rs) := .rows h1 hs h2 h3 h4 h5 h6 ((rows_flat h5).2 h7)

theorem Heap.rowsOf_some {H : Heap} {r g : Nat} {rs : List Row} (h : H.rowsOf r g = some rs) : ∃ s, H[r]? = some (.rows g s rs) := by
  unfold Heap.rowsOf at h
  split at h
  · rename_i g' s' rs' e
    split at h
    · rename_i hg; subst hg; cases h; exact ⟨s', e⟩
    · cases h
  · cases h

theorem Heap.blkOf_some {H : Heap} {r g : Nat} {b : Nat × List Row} (h : H.blkOf r g = some b) : H[r]? = some (.rows g b.1 b.2) := by
  unfold Heap.blkOf at h
  split at h
  · rename_i g' s' rs' e
    split at h
    · rename_i hg; subst hg; cases h; exact e
    · cases h
  · cases h

theorem Heap.row_some {H : Heap} {r g i : Nat} {row : Row} (h : H.row r g i = some row) : ∃ s rs, H[r]? = some (.rows g s rs) ∧ rs[i]? = some row := by
  unfold Heap.row at h
  split at h
  · rename_i g' s' rs' e
    split at h
    · rename_i hg; subst hg; exact ⟨s', rs', e, h⟩
    · cases h
  · cases h

/-- The block behind a reference that is current. -/
theorem HRel.at {X : Ctx} {H : Heap} {w : World} (hH : HRel X H w) {r g s : Nat} {rs : List Row} {bi : BI} (hb : H[r]? = some (.rows g s rs)) (hr : X.blk r = some bi) : BRel X w bi (.rows g s rs) := by
  obtain ⟨b, h1, h2⟩ := hH.blk r bi hr
  rw [hb] at h1
  cases h1
  exact h2

theorem row_at {rs : List Row} {s : Nat} (hl : ∀ row ∈ rs, row.length = s) {i : Nat} {row : Row} (hi : rs[i]? = some row) {X : Ctx} {w : World} {b o : Nat} (h : CellsAt X w b o rs.flatten) :
    CellsAt X w b (o + i * s) row := by
  intro k c hk
  have hj : k < s := by have := (List.getElem?_eq_some_iff.1 hk).1; rw [hl row (List.mem_of_getElem? hi)] at this; exact this
  have := h (i * s + k) c (by rw [flat_get hl hi hj]; exact hk)
  rwa [show o + (i * s + k) = o + i * s + k by omega] at this

theorem row_fits {rs : List Row} {s : Nat} {i : Nat} {row : Row} (hi : rs[i]? = some row) : i * s + s ≤ rs.length * s := by
  have := (List.getElem?_eq_some_iff.1 hi).1
  have : (i + 1) * s ≤ rs.length * s := Nat.mul_le_mul_right _ this
  rwa [Nat.succ_mul] at this

/-- Where a pointer leads: the cells of its row from its place on. -/
theorem ptr_cells {X : Ctx} {H : Heap} {w : World} (hH : HRel X H w) {r g i j : Nat} {v : Value} (hv : VRel X w (.ptr r g i j) v) {row : Row} (hr : H.row r g i = some row) :
    ∃ bi, X.blk r = some bi ∧ v = .pointer (some ⟨bi.B, bi.o + i * bi.sz + j, none⟩) ∧ row.length = bi.sz ∧ CellsAt X w bi.B (bi.o + i * bi.sz) row := by
  obtain ⟨s, rs, h1, h2⟩ := Heap.row_some hr
  cases hv with
  | ptr hx hg ha =>
    rename_i a bi
    have hb := hH.at h1 hx
    obtain ⟨k1, _, k3, _, k5⟩ := hb.cellsAt
    have := ha k1.1
    subst this
    exact ⟨bi, hx, rfl, k3 row (List.mem_of_getElem? h2), row_at k3 h2 k5⟩

theorem iptr_cells {X : Ctx} {w : World} {rows : List Row} {i j : Nat} {v : Value} (hv : VRel X w (.iptr rows i j) v) {row : Row} (hr : rows[i]? = some row) :
    ∃ b o, v = .pointer (some ⟨b, o + j, none⟩) ∧ CellsAt X w b o row := by
  cases hv with
  | iptr f hl hc hv hn hb =>
    rename_i b o s
    exact ⟨b, o + i * s, rfl, fun k c hk => ⟨f i k, (hc i row k c hr hk).1, (hc i row k c hr hk).2, hv i row k c hr hk⟩⟩

theorem cut_cells {X : Ctx} {w : World} {b o j : Nat} {row : Row} (h : CellsAt X w b o row) (P : Program) (t : TypeId) (agg : Option Nat) (c : AV) (hc : cut row j agg = some c)
    (ht : (agg = none ∧ (isAgg t).run P w = .ok false w) ∨ (∃ n, agg = some n ∧ (isAgg t).run P w = .ok true w ∧ (sizeOf t).run P w = .ok n w)) :
    ∃ v, (loadVar t ⟨b, o + j, none⟩).run P w = .ok v w ∧ VRel X w c v := by
  rcases ht with ⟨rfl, ht⟩ | ⟨n, rfl, ht, hs⟩
  · simp [cut] at hc
    obtain ⟨v, h1, h2, h3⟩ := h j c hc
    exact ⟨v, by simp [loadVar, ht, h1], h3⟩
  · simp only [cut, req] at hc
    split at hc
    · rename_i hle
      cases hc
      have hseg : CellsAt X w b (o + j) ((row.drop j).take n) := h.drop.take
      obtain ⟨vs, h1, h2, h3, h4⟩ := hseg.values
      have hlen : vs.length = n := by rw [h1]; simp; omega
      have hload := run_loadCells_list (P := P) w ⟨b, o + j, none⟩ vs (fun k v hk => by rw [addr_add]; exact h2 k v hk)
      rw [hlen] at hload
      refine ⟨.agg vs.toArray, ?_, .agg h1.symm h3.2⟩
      unfold loadVar
      rw [Sem.run_bind, ht, Result.andThen_ok, if_pos rfl, Sem.run_bind, hs, Result.andThen_ok, Sem.run_bind, hload, Result.andThen_ok, Sem.run_pure]
    · cases hc

theorem load_ok {X : Ctx} {H : Heap} {w : World} (hH : HRel X H w) {a : AV} {va : Value} (hv : VRel X w a va) (P : Program) (t : TypeId) (agg : Option Nat) (c : AV) (hc : loadAV H agg a = some c)
    (ht : (agg = none ∧ (isAgg t).run P w = .ok false w) ∨ (∃ n, agg = some n ∧ (isAgg t).run P w = .ok true w ∧ (sizeOf t).run P w = .ok n w)) :
    ∃ v, (Instr.loadAt t va).run P w = .ok v w ∧ VRel X w c v := by
  cases a <;> simp only [loadAV, Option.bind_eq_some_iff, reduceCtorEq] at hc
  case ptr r g i j =>
    obtain ⟨row, h1, h2⟩ := hc
    obtain ⟨bi, k1, k2, k3, k4⟩ := ptr_cells hH hv h1
    subst k2
    obtain ⟨v, m1, m2⟩ := cut_cells k4 P t agg c h2 ht
    exact ⟨v, by simpa [Instr.loadAt, Instr.sureAddr] using m1, m2⟩
  case iptr rows i j =>
    obtain ⟨row, h1, h2⟩ := hc
    obtain ⟨b, o, k2, k4⟩ := iptr_cells hv h1
    subst k2
    obtain ⟨v, m1, m2⟩ := cut_cells k4 P t agg c h2 ht
    exact ⟨v, by simpa [Instr.loadAt, Instr.sureAddr] using m1, m2⟩

theorem splice_flat {rs : List Row} {s : Nat} (hl : ∀ row ∈ rs, row.length = s) {i : Nat} {row : Row} (hi : rs[i]? = some row) {j : Nat} {cs : Row} (hj : j + cs.length ≤ s) :
    (rs.set i (splice row j cs)).flatten = rs.flatten.take (i * s + j) ++ cs ++ rs.flatten.drop (i * s + j + cs.length) := by
  induction rs generalizing i with
  | nil => simp at hi
  | cons r rest ih =>
    have hr : r.length = s := hl r (by simp)
    cases i with
    | zero =>
      simp at hi
      subst hi
      simp only [List.set_cons_zero, List.flatten_cons, splice, Nat.zero_mul, Nat.zero_add]
      rw [List.take_append_of_le_length (by omega), List.drop_append_of_le_length (by omega)]
      simp [List.append_assoc]
    | succ i =>
      simp at hi
      have := ih (fun x hx => hl x (by simp [hx])) hi
      simp only [List.set_cons_succ, List.flatten_cons, this]
      have e1 : (i + 1) * s + j = r.length + (i * s + j) := by rw [Nat.succ_mul, hr]; omega
      have e2 : (i + 1) * s + j + cs.length = r.length + (i * s + j + cs.length) := by rw [Nat.succ_mul, hr]; omega
      rw [e1, List.take_length_add_append]
      rw [show r.length + (i * s + j) + cs.length = r.length + (i * s + j + cs.length) by omega, List.drop_length_add_append]
      simp [List.append_assoc]

theorem len_set {rs : List Row} {s : Nat} (hl : ∀ row ∈ rs, row.length = s) {i : Nat} {x : Row} (hx : x.length = s) : ∀ row ∈ rs.set i x, row.length = s := by
  intro row hr
  rcases List.mem_or_eq_of_mem_set hr with h | h
  · exact hl row h
  · rw [h]; exact hx

theorem splice_len {row : Row} {j : Nat} {cs : Row} (h : j + cs.length ≤ row.length) : (splice row j cs).length = row.length := by
  simp [splice]; omega

/-- A row of cells of one block is written: the relation of that block. -/
theorem setRow_upd {X : Ctx} {w : World} {r : Nat} {bi : BI} (hr : X.blk r = some bi) {cur : Array Value} {e : TypeId} {lo hi : Nat} (hg : w.heap[bi.B]? = some (.cells cur e (lo, hi)))
    (new : Array Value) {bi' : BI} (hB : bi'.B = bi.B) (hl : bi' = bi ∨ bi.g < bi'.g) : Upd X w r bi bi' (w.setRow bi.B new) where
  was := hr
  size := by simp
  os := rfl
  tape := rfl
  output := rfl
  others b _ hne := setRow_other w bi.B b new hne
  later := hl
  place := .inl hB
  lt := by rw [hB]; simp; exact (Array.getElem?_eq_some_iff.1 hg).1

theorem CellsAt.stp {X X' : Ctx} {w w' : World} {H : Heap} (hH : HRel X H w) (h : Stp X w X' w') {b o : Nat} {cs : List AV} (hc : CellsAt X w b o cs) (hsame : ∀ k c, cs[k]? = some c → w'.cell? ⟨b, o + k, none⟩ = w.cell? ⟨b, o + k, none⟩) :
    CellsAt X' w' b o cs := by
  intro k c hk
  obtain ⟨v, h1, h2, h3⟩ := hc k c hk
  exact ⟨v, by rw [hsame k c hk]; exact h1, h2, h3.step hH h⟩

/-- Cells of a row that has been written anew from a place on. -/
theorem cellsAt_splice {X X' : Ctx} {w : World} {H : Heap} (hH : HRel X H w) {B o q : Nat} {cur : Array Value} {e : TypeId} {fr : Nat × Nat} (hg : w.heap[B]? = some (.cells cur e fr))
    {old : List AV} (hold : CellsAt X w B o old) {cs : List AV} {vs : List Value} (hrel : VRels X w cs vs) (hsc : okRow cs = true) (hfit : o + q + cs.length ≤ cur.size) (hq : q ≤ old.length)
    (hs : Stp X w X' (w.setRow B (cur.toList.take (o + q) ++ vs ++ cur.toList.drop (o + q + vs.length)).toArray)) :
    CellsAt X' (w.setRow B (cur.toList.take (o + q) ++ vs ++ cur.toList.drop (o + q + vs.length)).toArray) B o (old.take q ++ cs ++ old.drop (q + cs.length)) := by
  have hlen := hrel.1
  have hcell : ∀ j, (w.setRow B (cur.toList.take (o + q) ++ vs ++ cur.toList.drop (o + q + vs.length)).toArray).cell? ⟨B, j, none⟩ = (cur.toList.take (o + q) ++ vs ++ cur.toList.drop (o + q + vs.length))[j]? := by
    intro j
    rw [cell_setRow_same w B j cur _ e fr hg]
    simp
  have hwas : ∀ j, w.cell? ⟨B, j, none⟩ = cur.toList[j]? := by intro j; rw [cell_of_row w B j cur e fr hg]; simp
  have htk : (cur.toList.take (o + q)).length = o + q := by simp; omega
  intro k c hk
  rw [hcell]
  have hoq : (old.take q).length = q := by simp; omega
  by_cases h1 : k < q
  · rw [List.append_assoc, List.getElem?_append_left (by omega), List.getElem?_take, if_pos h1] at hk
    obtain ⟨v, a1, a2, a3⟩ := hold k c hk
    refine ⟨v, ?_, a2, a3.step hH hs⟩
    rw [List.append_assoc, List.getElem?_append_left (by omega), List.getElem?_take, if_pos (by omega), ← hwas]
    exact a1
  · by_cases h2 : k < q + cs.length
    · rw [List.append_assoc, List.getElem?_append_right (by omega), List.getElem?_append_left (by omega), hoq] at hk
      obtain ⟨v, hv⟩ : ∃ v, vs[k - q]? = some v := ⟨vs[k - q]'(by omega), by simp⟩
      refine ⟨v, ?_, ?_, (hrel.2 _ c v hk hv).step hH hs⟩
      · rw [List.append_assoc, List.getElem?_append_right (by omega), htk, List.getElem?_append_left (by omega), show o + k - (o + q) = k - q by omega]
        exact hv
      · simp [okRow] at hsc
        exact hsc c (List.mem_of_getElem? hk)
    · rw [List.getElem?_append_right (by simp; omega), List.getElem?_drop] at hk
      simp only [List.length_append, hoq] at hk
      rw [show q + cs.length + (k - (q + cs.length)) = k by omega] at hk
      obtain ⟨v, a1, a2, a3⟩ := hold k c hk
      refine ⟨v, ?_, a2, a3.step hH hs⟩
      rw [List.getElem?_append_right (by simp; omega), List.getElem?_drop]
      simp only [List.length_append, htk]
      rw [show o + q + vs.length + (o + k - (o + q + vs.length)) = o + k by omega, ← hwas]
      exact a1

theorem store_ok {X : Ctx} {H H' : Heap} {w : World} (hH : HRel X H w) {a c : AV} {va vc : Value} (hv : VRel X w a va) (hc : VRel X w c vc) (P : Program) (t : TypeId) (sz : Nat)
    (ht : (sizeOf t).run P w = .ok sz w) (he : storeAV H sz a c = some H') :
    ∃ w' X', (Instr.storeAt t va vc).run P w = .ok () w' ∧ HRel X' H' w' ∧ Stp X w X' w' := by
  cases a <;> simp only [storeAV, Option.bind_eq_some_iff, reduceCtorEq] at he
  case ptr r g i j =>
    obtain ⟨⟨s, rs⟩, h1, row, h2, h3⟩ := he
    unfold req at h3
    split at h3
    · rename_i hreq
      cases h3
      obtain ⟨hlen, hfit, hok⟩ := hreq
      have hb := Heap.blkOf_some h1
      have hrow : H.row r g i = some row := by simp [Heap.row, hb, h2]
      obtain ⟨bi, hx, hva, hrl, _⟩ := ptr_cells hH hv hrow
      subst hva
      have hbr := hH.at hb hx
      obtain ⟨⟨hg, hss⟩, ⟨cur, e, lo, hi, hcur, hsz, hfr⟩, hl, hle, hat⟩ := hbr.cellsAt
      obtain ⟨hrel, hone⟩ := cells_rel hok hc
      have hpl := row_fits (s := bi.sz) h2
      have hvl : vc.cells.toList.length = sz := by rw [← hrel.1]; exact hlen
      have hst := run_storeCells_fr P bi.B (bi.o + i * bi.sz + j) e lo hi vc.cells.toList 0 cur w hcur (by rw [hvl]; simp only [Nat.add_zero]; omega) (by rw [hsz]; exact frz_ok hfr) hone
      simp only [Nat.add_zero] at hst
      have hu := setRow_upd hx hcur (cur.toList.take (bi.o + (i * bi.sz + j)) ++ vc.cells.toList ++ cur.toList.drop (bi.o + (i * bi.sz + j) + vc.cells.toList.length)).toArray (bi' := bi) rfl (.inl rfl)
      have hs := hu.stp hH.own
      have hfl := flat_len hl
      have hat' := cellsAt_splice hH hcur hat hrel hok (q := i * bi.sz + j) (by rw [hlen]; omega) (by omega) hs
      have hsp := splice_flat hl h2 (j := j) (cs := c.cells) (by rw [hlen]; omega)
      rw [← hsp] at hat'
      rw [Nat.add_assoc] at hst
      refine ⟨_, _, ?_, hu.hrel hH (brel_rows hg hss (setRow_heap w bi.B cur _ e _ hcur) ?_ hfr (len_set hl (by rw [splice_len (by rw [hlen, hrl]; omega)]; exact hrl)) (by simpa using hle) hat'), hs⟩
      · have hne : vc.cells.size = sz := by simpa using hvl
        simp only [Instr.storeAt, Instr.sureAddr, storeVar, Sem.run_bind, Sem.run_pure, Result.andThen_ok, ht, hne, ne_eq, not_true_eq_false, if_false]
        rw [Nat.add_assoc]
        exact hst
      · simp only [List.size_toArray, List.length_append, List.length_take, List.length_drop, Array.length_toList, hvl]
        omega
    · cases h3

end Go.Ab
