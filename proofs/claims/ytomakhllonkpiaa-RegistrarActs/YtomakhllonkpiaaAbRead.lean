/-
  The arguments of a law, as they read, seen as pure values.
  Conditions: none.
-/
import Derived.Test.YtomakhllonkpiaaAbLaw
namespace Go.Ab
open Go.ChangeShapes Go.WideShapes

/-- What the cells of a type look like. -/
def Rd (P : Program) (t : TypeId) (Φ : List AV → Prop) : Prop :=
  ∀ {H : Type} (enc : TypeId × Value → H) (w : World) (base : Nat) (spare : Nat → Bool) (held : Bool) (fuel : Nat) (cs : List Value) (x : DataW H × List MemPlace),
    DataW.trod enc P w base spare held fuel t cs = some x → ∃ l, Φ l ∧ VRels X0 w l cs ∧ ∀ c ∈ l, c.sc = true

section
variable {P : Program} {t : TypeId}

theorem Rd.mono {Φ Ψ : List AV → Prop} (h : Rd P t Φ) (hi : ∀ l, Φ l → Ψ l) : Rd P t Ψ := by
  intro H enc w base spare held fuel cs x hx
  obtain ⟨l, h1, h2⟩ := h enc w base spare held fuel cs x hx
  exact ⟨l, hi l h1, h2⟩

theorem VRels.one {X : Ctx} {w : World} {c : AV} {v : Value} (h : VRel X w c v) : VRels X w [c] [v] := .cons h (.nil X w)

theorem Rd_int {k : IntKind} (ht : P.underlying t = some (.int k)) : Rd P t fun l => ∃ n, l = [.int k n] ∧ (Lit.int k n).wf = true := by
  intro H enc w base spare held fuel cs x hx
  obtain ⟨n, rfl, _, hw⟩ := DataW.trod_int ht hx
  exact ⟨[.int k n], ⟨n, rfl, hw⟩, VRels.one .int, by simp [AV.sc]⟩

theorem Rd_bool (ht : P.underlying t = some .bool) : Rd P t fun l => ∃ b, l = [.bool b] := by
  intro H enc w base spare held fuel cs x hx
  obtain ⟨b, rfl, _⟩ := DataW.trod_bool ht hx
  exact ⟨[.bool b], ⟨b, rfl⟩, VRels.one .bool, by simp [AV.sc]⟩

theorem Rd_str (ht : P.underlying t = some .string) : Rd P t fun l => ∃ s : List UInt8, l = [.str s] ∧ s.length ≤ maxLen := by
  intro H enc w base spare held fuel cs x hx
  obtain ⟨s, rfl, _, hs⟩ := DataW.trod_string ht hx
  exact ⟨[.str s.data.toList], ⟨_, rfl, by simpa using hs⟩, VRels.one (.str rfl), by simp [AV.sc]⟩

theorem Rd_slice {e : TypeId} {s : Nat} {Φ : List AV → Prop} (ht : P.underlying t = some (.slice e)) (hs : P.cellsOf e = s) (hpos : 0 < s) (h : Rd P e Φ) :
    Rd P t fun l => ∃ rows : List Row, l = [.islice rows] ∧ rows.length ≤ maxLen ∧ ∀ row ∈ rows, Φ row := by
  intro H enc w base spare held fuel cs x hx
  rcases DataW.trod_slice ht hx with ⟨rfl, _⟩ | ⟨a, len, cap, elems, rest, n, rfl, rfl, _, hb, hl, hm, hel, hread, _⟩
  · exact ⟨[.islice []], ⟨[], rfl, by simp, by simp⟩, VRels.one .islice0, by simp [AV.sc]⟩
  · rw [hs] at hread
    have each : ∀ i, i < len → ∃ (row : Row) (cs : List Value), Φ row ∧ VRels X0 w row cs ∧ (∀ c ∈ row, c.sc = true) ∧ cs.length = s ∧ a.block < w.heap.size ∧ ∀ j, j < s → w.cell? ((a.add (i * s)).add j) = cs[j]? := by
      intro i hi
      have h1 := hread i hi
      have : elems[i]? = some (elems[i]'(by omega)) := by simp
      rw [this, Option.bind_eq_some_iff] at h1
      obtain ⟨cs, h2, h3⟩ := h1
      obtain ⟨_, h4, h5⟩ := World.cells?_some h2
      obtain ⟨row, k1, k2, k3⟩ := h enc w base spare held n cs _ h3
      have hblk := World.cells?_block h2 hpos
      have hab : (a.add (i * s)).block = a.block := by unfold Addr.add; split <;> rfl
      exact ⟨row, cs, k1, k2, k3, h4, by rw [← hab]; exact hblk, h5⟩
    have spot : 0 < len → a.spot = none := by
      intro h0
      obtain ⟨row, cs, _, _, _, h4, _, h5⟩ := each 0 h0
      have h6 := h5 0 hpos
      have e : ((a.add (0 * s)).add 0) = a := by simp [Addr.add]
      rw [e] at h6
      have : cs[0]? = some (cs[0]'(by omega)) := by simp
      rw [this] at h6
      unfold World.cell? at h6
      split at h6
      · split at h6
        · cases h6
        · rename_i hsp
          cases hq : a.spot with
          | none => rfl
          | some q => simp [hq] at hsp
      · cases h6
    classical
    let rowOf : Nat → Row := fun i => if hi : i < len then (each i hi).choose else []
    have hrow : ∀ i, i < len → ∃ cs : List Value, Φ (rowOf i) ∧ VRels X0 w (rowOf i) cs ∧ (∀ c ∈ rowOf i, c.sc = true) ∧ cs.length = s ∧ a.block < w.heap.size ∧ ∀ j, j < s → w.cell? ((a.add (i * s)).add j) = cs[j]? := by
      intro i hi
      simp only [rowOf, dif_pos hi]
      exact (each i hi).choose_spec
    let rows : List Row := (List.range len).map rowOf
    have hget : ∀ (i : Nat) row, rows[i]? = some row → i < len ∧ row = rowOf i := by
      intro i row hr
      simp only [rows, List.getElem?_map, Option.map_eq_some_iff] at hr
      obtain ⟨j, hj, rfl⟩ := hr
      obtain ⟨h1, h2⟩ := List.getElem?_eq_some_iff.1 hj
      simp at h1 h2
      subst h2
      exact ⟨h1, rfl⟩
    have hcell : ∀ (i : Nat) row (j : Nat) c, rows[i]? = some row → row[j]? = some c → ∃ u, w.cell? ⟨a.block, a.off + i * s + j, none⟩ = some u ∧ VRel X0 w c u ∧ c.sc = true := by
      intro i row j c hr hc
      obtain ⟨hi, rfl⟩ := hget i row hr
      obtain ⟨cs, _, h2, h3, h4, _, h5⟩ := hrow i hi
      have hj : j < s := by
        have := (List.getElem?_eq_some_iff.1 hc).1
        have := h2.1
        omega
      have h6 := h5 j hj
      have : cs[j]? = some (cs[j]'(by omega)) := by simp
      rw [this] at h6
      refine ⟨_, ?_, h2.2 j c _ hc this, h3 c (List.mem_of_getElem? hc)⟩
      rw [← h6]
      congr 1
      have hsp := spot (by omega)
      have e1 : ∀ (b : Addr) (m : Nat), b.spot = none → b.add m = ⟨b.block, b.off + m, none⟩ := by
        intro b m hb
        cases b
        simp only at hb
        subst hb
        unfold Addr.add
        split
        · rename_i h; subst h; rfl
        · rfl
      rw [e1 a _ hsp, e1 _ _ rfl]
    refine ⟨[.islice rows], ⟨rows, rfl, by simp only [rows, List.length_map, List.length_range]; omega, ?_⟩, VRels.one ?_, by simp [AV.sc]⟩
    · intro row hr
      obtain ⟨i, hi⟩ := List.getElem?_of_mem hr
      obtain ⟨h1, rfl⟩ := hget i row hi
      obtain ⟨cs, h2, _⟩ := hrow i h1
      exact h2
    · refine .islice (s := s) (fun i j => (w.cell? ⟨a.block, a.off + i * s + j, none⟩).getD undef) (by simp [rows]) hl (fun row hr => ?_) (fun i row j c h1 h2 => ?_) (fun i row j c h1 h2 => ?_) (fun h0 => ?_)
      · obtain ⟨i, hi⟩ := List.getElem?_of_mem hr
        obtain ⟨h1, rfl⟩ := hget i row hi
        obtain ⟨cs, _, h2, _, h4, _⟩ := hrow i h1
        rw [h2.1, h4]
      · obtain ⟨u, k1, _, k3⟩ := hcell i row j c h1 h2
        simp only [k1, Option.getD_some]
        exact ⟨trivial, k3⟩
      · obtain ⟨u, k1, k2, _⟩ := hcell i row j c h1 h2
        simp only [k1, Option.getD_some]
        exact k2
      · obtain ⟨cs, _, _, _, _, h5, _⟩ := hrow 0 h0
        exact ⟨fun h => h, spot h0, h5⟩

/-- What the cells of a struct's fields look like, from one place on to another. -/
inductive Rds (P : Program) : Nat → List Field → (List AV → Prop) → Nat → Prop
  | nil {o} : Rds P o [] (fun l => l = []) o
  | cons {o : Nat} {f : Field} {fs : List Field} {Φ Ψ : List AV → Prop} {e : Nat} : f.offset = o → Rd P f.type Φ → Rds P (o + P.cellsOf f.type) fs Ψ e → Rds P o (f :: fs) (fun l => ∃ a b, l = a ++ b ∧ Φ a ∧ Ψ b) e

theorem Rds.read {fs : List Field} {Φ : List AV → Prop} {o e : Nat} (h : Rds P o fs Φ e) {H : Type} (enc : TypeId × Value → H) (w : World) (base : Nat) (spare : Nat → Bool) (held : Bool) (n : Nat) (cs : List Value) :
    cs.length = e → o ≤ e → (∀ f ∈ fs, ∃ x, DataW.trod enc P w base spare held n f.type ((cs.drop f.offset).take (P.cellsOf f.type)) = some x) →
    ∃ l, Φ l ∧ VRels X0 w l (cs.drop o) ∧ ∀ c ∈ l, c.sc = true := by
  induction h with
  | nil =>
    intro h1 _ _
    refine ⟨[], rfl, ?_, by simp⟩
    rw [List.drop_eq_nil_of_le (by omega)]
    exact .nil _ _
  | @cons o f fs Φ Ψ e ho hr hs ih =>
    intro h1 h2 h3
    have hle : o + P.cellsOf f.type ≤ e := by
      clear ih h3
      generalize o + P.cellsOf f.type = q at hs
      have : ∀ {q : Nat} {fs : List Field} {Ψ : List AV → Prop} {e : Nat}, Rds P q fs Ψ e → q ≤ e := by
        intro q fs Ψ e h
        induction h with
        | nil => exact Nat.le_refl _
        | cons _ _ _ ih => omega
      exact this hs
    obtain ⟨x, hx⟩ := h3 f (by simp)
    rw [ho] at hx
    obtain ⟨a, k1, k2, k3⟩ := hr enc w base spare held n _ x hx
    obtain ⟨b, m1, m2, m3⟩ := ih h1 hle (fun g hg => h3 g (by simp [hg]))
    refine ⟨a ++ b, ⟨a, b, rfl, k1, m1⟩, ?_, ?_⟩
    · have e1 : cs.drop o = (cs.drop o).take (P.cellsOf f.type) ++ cs.drop (o + P.cellsOf f.type) := by
        rw [← List.drop_drop, List.take_append_drop]
      rw [e1]
      exact VRels.append k2 m2
    · intro c hc
      rcases List.mem_append.1 hc with hc | hc
      · exact k3 c hc
      · exact m3 c hc

theorem Rd_struct {fs : Array Field} {Φ : List AV → Prop} (ht : P.underlying t = some (.struct fs)) (h : Rds P 0 fs.toList Φ (P.cellsOf t)) : Rd P t Φ := by
  intro H enc w base spare held fuel cs x hx
  obtain ⟨xs, n, rfl, _, hl, hlen, hf⟩ := DataW.trod_struct ht hx
  have := h.read enc w base spare held n cs hl (Nat.zero_le _) (fun f hm => ?_)
  · simpa using this
  · obtain ⟨i, hi⟩ := List.getElem?_of_mem hm
    have hi' : fs[i]? = some f := by simpa using hi
    have := hf i f hi'
    have hlt : i < xs.length := by
      rw [hlen]
      exact (Array.getElem?_eq_some_iff.1 hi').1
    exact ⟨xs[i], by rw [this]; simp [hlt]⟩

/-- An argument of one cell. -/
theorem arg_cell {w : World} {base : Nat} {v : Value} (hn : ∀ d, P.underlying t = some d → (∀ fs, d ≠ .struct fs) ∧ (∀ n e, d ≠ .array n e)) (hu : (P.underlying t).isSome = true) (h : Value.okWide P w .any base t v) : ∀ cs, v ≠ .agg cs := by
  intro cs e
  subst e
  obtain ⟨d, hd⟩ := Option.isSome_iff_exists.1 hu
  obtain ⟨h1, h2⟩ := hn d hd
  unfold Value.okWide at h
  rw [hd] at h
  cases d <;> simp_all [Cell.okWide, Cell.ok]

end
end Go.Ab
