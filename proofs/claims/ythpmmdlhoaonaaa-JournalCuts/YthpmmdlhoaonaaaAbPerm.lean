/-
  Regions whose order is open: the operations may be listed anew.
  Conditions: none.
-/
import Derived.Test.YthpmmdlhoaonaaaAbDraw2
namespace Go.Ab

def permO (p : List Nat) (o : Oper) : Oper := { o with after := o.after.map (fun e => { e with on := p.idxOf e.on }), guard := o.guard.map fun g => (p.idxOf g.1, g.2) }
def permOps (p : List Nat) (ops : Array Oper) : Array Oper := (p.map fun k => permO p (ops.getD k default)).toArray
def isPerm (n : Nat) (p : List Nat) : Bool :=
  decide (p.length = n) && (List.range n).all (fun k => decide (p.idxOf k < n)) && (List.range n).all (fun i => decide (p.getD i n < n) && decide (p.idxOf (p.getD i n) = i))

section
variable {P : Program} {ops : Array Oper} {p : List Nat} {Q : Exit → Act → World → Prop}

theorem isPerm_ok {n : Nat} (h : isPerm n p = true) : p.length = n ∧ (∀ k, k < n → p.idxOf k < n ∧ p[p.idxOf k]? = some k) ∧ (∀ i, i < n → ∃ k, p[i]? = some k ∧ k < n ∧ p.idxOf k = i) ∧ ∀ k, n ≤ k → p.idxOf k = n := by
  simp only [isPerm, Bool.and_eq_true, decide_eq_true_eq, List.all_eq_true, List.mem_range] at h
  obtain ⟨⟨h1, h2⟩, h3⟩ := h
  have inv : ∀ i, i < n → ∃ k, p[i]? = some k ∧ k < n ∧ p.idxOf k = i := by
    intro i hi
    obtain ⟨a, b⟩ := h3 i hi
    have hg : p[i]? = some (p[i]'(by omega)) := by simp [h1, hi]
    rw [List.getD_eq_getElem?_getD, hg] at a b
    exact ⟨_, hg, a, b⟩
  refine ⟨h1, fun k hk => ⟨h2 k hk, ?_⟩, inv, fun k hk => ?_⟩
  · have hlt : p.idxOf k < p.length := by rw [h1]; exact h2 k hk
    rw [List.getElem?_eq_getElem hlt, List.getElem_idxOf hlt]
  · have : k ∉ p := by
      intro hm
      obtain ⟨i, hi⟩ := List.getElem?_of_mem hm
      have hlt := (List.getElem?_eq_some_iff.1 hi).1
      obtain ⟨k', a, b, _⟩ := inv i (by omega)
      rw [hi] at a
      cases a
      omega
    rw [List.idxOf_eq_length this, h1]

theorem permOps_get (h : isPerm ops.size p = true) {k : Nat} {o : Oper} (ho : ops[k]? = some o) : (permOps p ops)[p.idxOf k]? = some (permO p o) := by
  have hk := (Array.getElem?_eq_some_iff.1 ho).1
  obtain ⟨_, h2, _, _⟩ := isPerm_ok h
  simp only [permOps, List.getElem?_toArray, List.getElem?_map, (h2 k hk).2, Option.map_some, Array.getD_eq_getD_getElem?, ho, Option.getD_some]

theorem permOps_size (h : isPerm ops.size p = true) : (permOps p ops).size = ops.size := by simp [permOps, (isPerm_ok h).1]

/-- The listed, side by side. -/
def LRel (n : Nat) (p : List Nat) (l l' : Array Bool) : Prop := l.size = n ∧ l'.size = n ∧ ∀ k, k < n → l[k]? = l'[p.idxOf k]?

theorem lrel_getD (h : isPerm ops.size p = true) {l l' : Array Bool} (hl : LRel ops.size p l l') (b : Bool) (k : Nat) : l.getD k b = l'.getD (p.idxOf k) b := by
  obtain ⟨a1, a2, a3⟩ := hl
  rw [Array.getD_eq_getD_getElem?, Array.getD_eq_getD_getElem?]
  by_cases hk : k < ops.size
  · rw [a3 k hk]
  · rw [(isPerm_ok h).2.2.2 k (by omega), Array.getElem?_eq_none (by omega), Array.getElem?_eq_none (by omega)]

theorem ready_perm (h : isPerm ops.size p = true) {l l' : Array Bool} (hl : LRel ops.size p l l') {i : Nat} (hi : i < ops.size) : i ∈ Region.ready .any ops l ↔ p.idxOf i ∈ Region.ready .any (permOps p ops) l' := by
  obtain ⟨o, ho⟩ : ∃ o, ops[i]? = some o := ⟨ops[i], by simp [hi]⟩
  have ho' := permOps_get h ho
  unfold Region.ready
  rw [List.mem_filter, List.mem_filter, List.mem_range, List.mem_range, permOps_size h, ho, ho', lrel_getD h hl true i]
  have e : (o.after.all fun e => !Region.binds .any e || l.getD e.on false) = ((permO p o).after.all fun e => !Region.binds .any e || l'.getD e.on false) := by
    simp only [permO, Array.all_map]
    congr 1
    funext e
    simp only [Function.comp, Region.binds]
    rw [lrel_getD h hl false e.on]
  simp only [Option.map_some, Option.getD_some, e, hi, ((isPerm_ok h).2.1 i hi).1]

theorem yielded_perm (h : isPerm ops.size p = true) {tmps : Array Value} (j : Nat) : yielded (permOps p ops) tmps (p.idxOf j) = yielded ops tmps j := by
  unfold yielded
  by_cases hj : j < ops.size
  · obtain ⟨o, ho⟩ : ∃ o, ops[j]? = some o := ⟨ops[j], by simp [hj]⟩
    rw [permOps_get h ho, ho]
    rfl
  · rw [(isPerm_ok h).2.2.2 j (by omega), Array.getElem?_eq_none (by rw [permOps_size h]; exact Nat.le_refl _), Array.getElem?_eq_none (by omega)]

theorem perm_op (h : isPerm ops.size p = true) {i : Nat} (hi : i < ops.size) {K K' : Act → World → Prop} (hK : ∀ a w, K' a w → K a w) {a : Act} {w : World} (hw : Go.wpOp P (permOps p ops) Q (p.idxOf i) K' a w) : Go.wpOp P ops Q i K a w := by
  obtain ⟨o, ho⟩ : ∃ o, ops[i]? = some o := ⟨ops[i], by simp [hi]⟩
  have ho' := permOps_get h ho
  unfold Go.wpOp at hw ⊢
  rw [ho'] at hw
  rw [ho]
  simp only at hw ⊢
  have e1 : Region.wanted (permO p o) (yielded (permOps p ops) a.tmps) = Region.wanted o (yielded ops a.tmps) := by
    unfold Region.wanted permO
    cases hg : o.guard with
    | none => simp
    | some g => simp [yielded_perm h]
  rw [e1] at hw
  split at hw
  · rename_i hwd
    rw [if_pos hwd]
    rcases hw with hw | hw
    · exact .inl (Oper.wp_mono (o := o) hK hw)
    · exact .inr hw
  · rename_i hwd
    rw [if_neg hwd]
    exact hK _ _ hw

theorem perm_any (h : isPerm ops.size p = true) : ∀ (fuel : Nat) (l l' : Array Bool) (a : Act) (w : World), LRel ops.size p l l' → wpAny P .any (permOps p ops) Q fuel l' a w → wpAny P .any ops Q fuel l a w := by
  have empty : ∀ l l' : Array Bool, LRel ops.size p l l' → (Region.ready .any ops l = [] ↔ Region.ready .any (permOps p ops) l' = []) := by
    intro l l' hl
    constructor
    · intro he
      rw [List.eq_nil_iff_forall_not_mem]
      intro i hi
      have hlt : i < ops.size := by
        unfold Region.ready at hi
        rw [List.mem_filter, List.mem_range, permOps_size h] at hi
        exact hi.1
      obtain ⟨k, _, hk, rfl⟩ := (isPerm_ok h).2.2.1 i hlt
      rw [← ready_perm h hl hk, he] at hi
      simp at hi
    · intro he
      rw [List.eq_nil_iff_forall_not_mem]
      intro i hi
      have hlt : i < ops.size := by
        unfold Region.ready at hi
        rw [List.mem_filter, List.mem_range] at hi
        exact hi.1
      rw [ready_perm h hl hlt, he] at hi
      simp at hi
  intro fuel
  induction fuel with
  | zero => intro l l' a w hl hw; exact ⟨(empty l l' hl).2 hw.1, hw.2⟩
  | succ fuel ih =>
    intro l l' a w hl hw
    refine ⟨fun he => hw.1 ((empty l l' hl).1 he), fun i hi => ?_⟩
    have hlt : i < ops.size := by
      unfold Region.ready at hi
      rw [List.mem_filter, List.mem_range] at hi
      exact hi.1
    refine perm_op h hlt (fun a w hk => ih _ _ a w ?_ hk) (hw.2 (p.idxOf i) ((ready_perm h hl hlt).1 hi))
    obtain ⟨a1, a2, a3⟩ := hl
    refine ⟨by simpa using a1, by simpa using a2, fun k hk => ?_⟩
    by_cases e : i = k
    · subst e
      have := ((isPerm_ok h).2.1 i hlt).1
      simp [a1, a2, hlt, this]
    · have hne : p.idxOf i ≠ p.idxOf k := by
        intro e2
        have q1 := ((isPerm_ok h).2.1 i hlt).2
        have q2 := ((isPerm_ok h).2.1 k hk).2
        rw [e2, q2] at q1
        cases q1
        exact e rfl
      rw [Array.getElem?_setIfInBounds_ne e, Array.getElem?_setIfInBounds_ne hne]
      exact a3 k hk

theorem perm_start (h : isPerm ops.size p = true) {a : Act} {w : World} (hw : wpAny P .any (permOps p ops) Q (permOps p ops).size (Array.replicate (permOps p ops).size false) a w) : wpAny P .any ops Q ops.size (Array.replicate ops.size false) a w := by
  rw [permOps_size h] at hw
  refine perm_any h _ _ _ a w ⟨by simp, by simp, fun k hk => ?_⟩ hw
  simp [hk, ((isPerm_ok h).2.1 k hk).1]

/-- The operations listed anew, where the list is one. -/
def reord (p : List Nat) (ops : Array Oper) : Array Oper := if isPerm ops.size p = true then permOps p ops else ops

theorem reord_ok {a : Act} {w : World} (hw : wpAny P .any (reord p ops) Q (reord p ops).size (Array.replicate (reord p ops).size false) a w) : wpAny P .any ops Q ops.size (Array.replicate ops.size false) a w := by
  unfold reord at hw
  split at hw
  · rename_i h; exact perm_start h hw
  · exact hw

end
end Go.Ab
