/-
  Slices of a call's own: what an append makes of them, and how they are turned immutable.
  Conditions: none.
-/
import Derived.Test.YthpmmdlhoaonaaaAbVc
namespace Go.Ab

/-- The slice c lies in the block r, and these are its rows. -/
def Own (H : Heap) (r sz : Nat) (c : AV) (rows : List Row) : Prop :=
  ∃ g i n rs, c = .slice r g i n ∧ H[r]? = some (.rows g sz rs) ∧ i + n ≤ rs.length ∧ (rs.drop i).take n = rows ∧ ∀ row ∈ rs, row.length = sz

/-- Rows of plain cells. -/
def Plain (rows : List Row) : Prop := ∀ row ∈ rows, ∀ c ∈ row, c.sc = true ∧ Cl 0 c

theorem Own.elems {H : Heap} {r sz : Nat} {c : AV} {rows : List Row} (h : Own H r sz c rows) : elems H c = some rows := by
  obtain ⟨g, i, n, rs, rfl, hb, hle, rfl, _⟩ := h
  simp [Ab.elems, Heap.rowsOf, hb, req, hle]

theorem Own.len {H : Heap} {r sz : Nat} {c : AV} {rows : List Row} (h : Own H r sz c rows) : lenAV H 1 c = some rows.length := by
  obtain ⟨g, i, n, rs, rfl, hb, hle, rfl, _⟩ := h
  simp [lenAV]
  omega

theorem Own.rowLen {H : Heap} {r sz : Nat} {c : AV} {rows : List Row} (h : Own H r sz c rows) : ∀ row ∈ rows, row.length = sz := by
  obtain ⟨g, i, n, rs, rfl, hb, hle, rfl, hs⟩ := h
  exact fun row hr => hs row (List.mem_of_mem_drop (List.mem_of_mem_take hr))

theorem own_new {H : Heap} {sz : Nat} {rs : List Row} (hs : ∀ row ∈ rs, row.length = sz) : Own (H ++ [.rows 0 sz rs]) H.length sz (.slice H.length 0 0 rs.length) rs :=
  ⟨0, 0, rs.length, rs, rfl, by simp, by simp, by simp, hs⟩

theorem Own.more {H N : Heap} {r sz : Nat} {c : AV} {rows : List Row} (h : Own H r sz c rows) : Own (H ++ N) r sz c rows := by
  obtain ⟨g, i, n, rs, h1, hb, h2⟩ := h
  exact ⟨g, i, n, rs, h1, by rw [List.getElem?_append_left (List.getElem?_eq_some_iff.1 hb).1]; exact hb, h2⟩

theorem Own.lt {H : Heap} {r sz : Nat} {c : AV} {rows : List Row} (h : Own H r sz c rows) : r < H.length := by
  obtain ⟨g, i, n, rs, h1, hb, h2⟩ := h
  exact (List.getElem?_eq_some_iff.1 hb).1

/-- An append to a slice of the call's own. -/
theorem Own.append {H : Heap} {r sz bytes : Nat} {c x : AV} {rows news : List Row} (h : Own H r sz c rows) (hx : Ab.elems H x = some news) (hl : ∀ row ∈ news, row.length = sz) (hroom : (rows.length + news.length) * bytes ≤ roomB) :
    ∃ c' b, appendAV H sz bytes c x = some (c', H.set r b) ∧ Own (H.set r b) r sz c' (rows ++ news) := by
  have hlt := h.lt
  obtain ⟨g, i, n, rs, rfl, hb, hle, rfl, hs⟩ := h
  have hn : ((rs.drop i).take n).length = n := by simp; omega
  rw [hn] at hroom
  have hblk : H.blkOf r g = some (sz, rs) := by simp [Heap.blkOf, hb]
  cases news with
  | nil =>
    have hset : H.set r (.rows g sz rs) = H := by
      apply List.ext_getElem?
      intro k
      by_cases hk : r = k
      · subst hk; rw [List.getElem?_set_self hlt, hb]
      · rw [List.getElem?_set_ne hk]
    refine ⟨.slice r g i n, .rows g sz rs, ?_, ?_⟩
    · simp [appendAV, hx, req, hblk, hle, hset]
      simpa using hroom
    · rw [hset]
      exact ⟨g, i, n, rs, rfl, hb, hle, by simp, hs⟩
  | cons row rest =>
    refine ⟨.slice r (g + 1) 0 (n + (row :: rest).length), .rows (g + 1) sz ((rs.drop i).take n ++ (row :: rest)), ?_, ?_⟩
    · simp only [appendAV, hx, Option.bind_some, req, if_pos hl, hblk]
      rw [if_pos ⟨trivial, hle, hroom⟩]
    · refine ⟨g + 1, 0, n + (row :: rest).length, (rs.drop i).take n ++ (row :: rest), rfl, by rw [List.getElem?_set_self hlt], ?_, ?_, ?_⟩
      · rw [List.length_append, hn]; omega
      · rw [List.drop_zero, List.take_of_length_le]; rw [List.length_append, hn]; omega
      · intro row' hr
        rcases List.mem_append.1 hr with hr | hr
        · exact hs row' (List.mem_of_mem_drop (List.mem_of_mem_take hr))
        · exact hl row' hr

/-- An append to the nil slice. -/
theorem append_nil {H : Heap} {sz bytes : Nat} {x : AV} {row : Row} {rest : List Row} (hx : Ab.elems H x = some (row :: rest)) (hl : ∀ r ∈ row :: rest, r.length = sz) (hroom : (row :: rest).length * bytes ≤ roomB) :
    appendAV H sz bytes .nils x = some (.slice H.length 0 0 (row :: rest).length, H ++ [.rows 0 sz (row :: rest)]) := by
  simp only [appendAV, hx, Option.bind_some, req, if_pos hl, if_pos hroom]

theorem append_nil0 {H : Heap} {sz bytes : Nat} {x : AV} (hx : Ab.elems H x = some []) : appendAV H sz bytes .nils x = some (.nils, H) := by
  simp [appendAV, hx, req]

/-- Turned immutable. -/
theorem Own.freeze {J : Heap} {r sz : Nat} {c : AV} {rows : List Row} (h : Own J r sz c rows) (hp : Plain rows) : CV 0 J [] c (.islice rows) := by
  obtain ⟨g, i, n, rs, rfl, hb, hle, rfl, hs⟩ := h
  have hin : ∀ (k : Nat) row, ((rs.drop i).take n)[k]? = some row → rs[i + k]? = some row := by
    intro k row h
    rw [List.getElem?_take] at h
    split at h
    · rw [List.getElem?_drop] at h; exact h
    · cases h
  have := CV.fz (n := 0) (J := J) (ks := []) (k := r) (g := g) (a := i) (m := n) (rows := (rs.drop i).take n) (fun k j => (((rs[i + k]?).getD [])[j]?).getD .undef) hb (by simp) hle (by simp; omega)
    (fun row hr => hs row (List.mem_of_mem_drop (List.mem_of_mem_take hr)))
    (fun k row j c h1 h2 => ⟨⟨row, hin k row h1, by simp [hin k row h1, h2]⟩, (hp row (List.mem_of_getElem? h1) c (List.mem_of_getElem? h2)).1⟩)
    (fun k row j c h1 h2 => by simp only [hin k row h1, Option.getD_some, h2]; exact .refl (hp row (List.mem_of_getElem? h1) c (List.mem_of_getElem? h2)).2)
  simpa using this

theorem cl_plain {n : Nat} {rows : List Row} (hp : Plain rows) : Cl n (.islice rows) :=
  .islice fun _ row _ c h1 h2 => ((hp row (List.mem_of_getElem? h1) c (List.mem_of_getElem? h2)).2).mono (Nat.zero_le _)

/-- An append of one row to a slice that covers its block. -/
theorem append_one {H : Heap} {r g sz bytes : Nat} {x : AV} {rs : List Row} {row : Row} (hb : H[r]? = some (.rows g sz rs)) (hx : Ab.elems H x = some [row]) (hl : row.length = sz) (hroom : (rs.length + 1) * bytes ≤ roomB) :
    appendAV H sz bytes (.slice r g 0 rs.length) x = some (.slice r (g + 1) 0 (rs.length + 1), H.set r (.rows (g + 1) sz (rs ++ [row]))) := by
  have hblk : H.blkOf r g = some (sz, rs) := by simp [Heap.blkOf, hb]
  have hlen : ∀ q ∈ [row], q.length = sz := by simp [hl]
  simp only [appendAV, hx, Option.bind_some, req, if_pos hlen, hblk]
  rw [if_pos ⟨trivial, by omega, by simpa using hroom⟩]
  simp

/-- An append of some rows to a slice that covers its block. -/
theorem append_some {H : Heap} {r g sz bytes : Nat} {x : AV} {rs news : List Row} (hb : H[r]? = some (.rows g sz rs)) (hx : Ab.elems H x = some news) (hl : ∀ row ∈ news, row.length = sz) (hroom : (rs.length + news.length) * bytes ≤ roomB) (hne : news ≠ []) :
    appendAV H sz bytes (.slice r g 0 rs.length) x = some (.slice r (g + 1) 0 (rs.length + news.length), H.set r (.rows (g + 1) sz (rs ++ news))) := by
  have hblk : H.blkOf r g = some (sz, rs) := by simp [Heap.blkOf, hb]
  cases news with
  | nil => exact absurd rfl hne
  | cons row rest =>
    simp only [appendAV, hx, Option.bind_some, req, if_pos hl, hblk]
    rw [if_pos ⟨trivial, by omega, hroom⟩]
    simp

theorem append_zero {H : Heap} {r g sz bytes : Nat} {x : AV} {rs : List Row} (hb : H[r]? = some (.rows g sz rs)) (hx : Ab.elems H x = some []) (hroom : rs.length * bytes ≤ roomB) :
    appendAV H sz bytes (.slice r g 0 rs.length) x = some (.slice r g 0 rs.length, H) := by
  have hblk : H.blkOf r g = some (sz, rs) := by simp [Heap.blkOf, hb]
  simp [appendAV, hx, req, hblk]
  exact hroom

theorem iaddr_s {H : Heap} {r g sz : Nat} {rs : List Row} {i n : Nat} {k : Int} {row : Row} (hb : H[r]? = some (.rows g sz rs)) (h0 : 0 ≤ k) (hk : k < (n : Int)) (h : rs[i + k.toNat]? = some row) (hl : row.length = sz) : iaddrAV H sz (.slice r g i n) k = some (.ptr r g (i + k.toNat) 0) := by
  simp [iaddrAV, Heap.row, hb, h, req, hl, h0, hk]

theorem load_s {H : Heap} {r g i j sz : Nat} {agg : Option Nat} {rs : List Row} {row : Row} {v : AV} (hb : H[r]? = some (.rows g sz rs)) (h : rs[i]? = some row) (hc : cut row j agg = some v) : loadAV H agg (.ptr r g i j) = some v := by
  simp [loadAV, Heap.row, hb, h, hc]

def rowsU8 (b : List UInt8) : List Row := b.map fun x => [.int .u8 x.toNat]

theorem rowsU8_plain (b : List UInt8) : Plain (rowsU8 b) := by
  intro row hr c hc
  simp only [rowsU8, List.mem_map] at hr
  obtain ⟨x, _, rfl⟩ := hr
  simp at hc
  subst hc
  exact ⟨rfl, .int⟩

theorem rowsU8_row (b : List UInt8) : ∀ row ∈ rowsU8 b, row.length = 1 := by
  intro row hr
  simp only [rowsU8, List.mem_map] at hr
  obtain ⟨x, _, rfl⟩ := hr
  rfl

@[simp] theorem rowsU8_len (b : List UInt8) : (rowsU8 b).length = b.length := by simp [rowsU8]
theorem rowsU8_append (a b : List UInt8) : rowsU8 (a ++ b) = rowsU8 a ++ rowsU8 b := by simp [rowsU8]
theorem rowsU8_get {b : List UInt8} {k : Nat} (h : k < b.length) : (rowsU8 b)[k]? = some [.int .u8 (b[k]).toNat] := by simp [rowsU8, h]

theorem bytesOf_rowsU8 : ∀ b : List UInt8, bytesOf (rowsU8 b) = some b
  | [] => rfl
  | x :: b => by
    have := bytesOf_rowsU8 b
    simp only [rowsU8, List.map_cons, bytesOf] at this ⊢
    rw [this]
    simp

end Go.Ab
