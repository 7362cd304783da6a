/-
  Accumulators: slices that begin as nil or as the call's own, and grow by appends.
  Conditions: none.
-/
import Derived.Test.YthpmmdlhoaonaaaAbOwn
namespace Go.Ab

theorem W_app {H : Heap} {r g sz b : Nat} {rs news : List Row} {x : AV} {K : AV × Heap → Prop} (hb : H[r]? = some (.rows g sz rs)) (hx : elems H x = some news) (hl : ∀ row ∈ news, row.length = sz) (hroom : (rs.length + news.length) * b ≤ roomB)
    (k : ∀ g', K (.slice r g' 0 (rs.length + news.length), H.set r (.rows g' sz (rs ++ news)))) : W (appendAV H sz b (.slice r g 0 rs.length) x) K := by
  by_cases hne : news = []
  · subst hne
    refine ⟨_, append_zero hb hx (by simpa using hroom), ?_⟩
    have hlt := (List.getElem?_eq_some_iff.1 hb).1
    have hset : H.set r (.rows g sz rs) = H := by
      apply List.ext_getElem?
      intro i
      by_cases hk : r = i
      · subst hk; rw [List.getElem?_set_self hlt, hb]
      · rw [List.getElem?_set_ne hk]
    have := k g
    simpa [hset] using this
  · exact ⟨_, append_some hb hx hl hroom hne, k (g + 1)⟩

/-- A slice that is nil as long as it is empty, and lies behind H0 from then on. -/
def Acc1 (H0 : Heap) (sz : Nat) (l : List Row) (c : AV) (H : Heap) : Prop :=
  (l = [] ∧ c = .nils ∧ H = H0) ∨ ∃ g, c = .slice H0.length g 0 l.length ∧ H = H0 ++ [.rows g sz l]

theorem Acc1.nil {H0 : Heap} {sz : Nat} : Acc1 H0 sz [] .nils H0 := .inl ⟨rfl, rfl, rfl⟩

theorem Acc1.append {H0 H : Heap} {sz b : Nat} {l news : List Row} {c x : AV} (h : Acc1 H0 sz l c H) (hx : elems H x = some news) (hl : ∀ row ∈ news, row.length = sz) (hroom : (l.length + news.length) * b ≤ roomB) {K : AV × Heap → Prop}
    (k : ∀ c' H', Acc1 H0 sz (l ++ news) c' H' → K (c', H')) : W (appendAV H sz b c x) K := by
  rcases h with ⟨rfl, rfl, rfl⟩ | ⟨g, rfl, rfl⟩
  · cases news with
    | nil => exact ⟨_, append_nil0 hx, k _ _ (.inl ⟨rfl, rfl, rfl⟩)⟩
    | cons row rest => exact ⟨_, append_nil hx hl (by simpa using hroom), k _ _ (.inr ⟨0, by simp, by simp⟩)⟩
  · refine W_app (by simp) hx hl hroom fun g' => k _ _ (.inr ⟨g', by simp, by simp⟩)

theorem Acc1.len {H0 H : Heap} {sz : Nat} {l : List Row} {c : AV} (h : Acc1 H0 sz l c H) : lenAV H 1 c = some l.length := by
  rcases h with ⟨rfl, rfl, rfl⟩ | ⟨g, rfl, rfl⟩ <;> rfl

theorem Acc1.elems {H0 H : Heap} {sz : Nat} {l : List Row} {c : AV} (h : Acc1 H0 sz l c H) : elems H c = some l := by
  rcases h with ⟨rfl, rfl, rfl⟩ | ⟨g, rfl, rfl⟩
  · rfl
  · simp [Ab.elems, Heap.rowsOf, req]

/-- The index of an element. -/
theorem Acc1.iaddr {H0 H : Heap} {sz : Nat} {l : List Row} {c : AV} (h : Acc1 H0 sz l c H) {k : Int} {row : Row} (h0 : 0 ≤ k) (hr : l[k.toNat]? = some row) (hl : row.length = sz) : ∃ p, iaddrAV H sz c k = some p ∧ ∀ j g v, cut row j g = some v → ∀ q, faddrAV j p = some q → loadAV H g q = some v := by
  have hlt := (List.getElem?_eq_some_iff.1 hr).1
  rcases h with ⟨rfl, rfl, rfl⟩ | ⟨g, rfl, rfl⟩
  · simp at hr
  · refine ⟨_, iaddr_s (sz := sz) (g := g) (rs := l) (row := row) (by simp) h0 (by omega) (by simpa using hr) hl, fun j gg v hc q hq => ?_⟩
    simp [faddrAV] at hq
    subst hq
    exact load_s (sz := sz) (rs := l) (row := row) (by simp) (by simpa using hr) hc

/-- What is left of it as a plain immutable slice. -/
theorem Acc1.freeze {H0 H : Heap} {sz : Nat} {l : List Row} {c : AV} (h : Acc1 H0 sz l c H) (hs : ∀ row ∈ l, row.length = sz) (hp : Plain l) : CV 0 H [] c (.islice l) := by
  rcases h with ⟨rfl, rfl, rfl⟩ | ⟨g, rfl, rfl⟩
  · exact .nil0
  · have : Own (H0 ++ [.rows g sz l]) H0.length sz (.slice H0.length g 0 l.length) l := ⟨g, 0, l.length, l, rfl, by simp, by simp, by simp, hs⟩
    exact this.freeze hp

/-- Plain lists of values that hold nothing of the call's own. -/
theorem plain_of {l : List Row} (h : ∀ row ∈ l, ∀ c ∈ row, c.sc = true ∧ Cl 0 c) : Plain l := h

theorem fin_acc {H0 H : Heap} {sz : Nat} {l : List Row} {c : AV} (h : Acc1 H0 sz l c H) (hs : ∀ row ∈ l, row.length = sz) (hp : Plain l) : Fin [] c H (.islice l) [] := fin_drop (h.freeze hs hp)

end Go.Ab
