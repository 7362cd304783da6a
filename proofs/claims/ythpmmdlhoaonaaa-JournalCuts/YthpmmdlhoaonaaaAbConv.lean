/-
  The state told anew: blocks that the call made are given up, or turned immutable, or numbered anew.
  Conditions: none.
-/
import Derived.Test.YthpmmdlhoaonaaaAbFn
import Derived.Test.YthpmmdlhoaonaaaAbDraw
namespace Go.Ab

/-- A value, and how it is told when of the blocks J made since n those of ks stay. -/
inductive CV (n : Nat) (J : Heap) (ks : List Nat) : AV → AV → Prop
  | undef {c} : CV n J ks c .undef
  | refl {c} : Cl n c → CV n J ks c c
  | nil0 : CV n J ks .nils (.islice [])
  | ptr {i k g a b} : ks[i]? = some k → CV n J ks (.ptr (n + k) g a b) (.ptr (n + i) g a b)
  | slice {i k g a m} : ks[i]? = some k → CV n J ks (.slice (n + k) g a m) (.slice (n + i) g a m)
  | map {i k} : ks[i]? = some k → CV n J ks (.map (n + k)) (.map (n + i))
  | fz {k g s rs a m rows} (f : Nat → Nat → AV) : J[k]? = some (.rows g s rs) → k ∉ ks → a + m ≤ rs.length → rows.length = m → (∀ row ∈ rows, row.length = s) →
      (∀ (i : Nat) row (j : Nat) c, rows[i]? = some row → row[j]? = some c → (∃ row0, rs[a + i]? = some row0 ∧ row0[j]? = some (f i j)) ∧ c.sc = true) →
      (∀ (i : Nat) row (j : Nat) c, rows[i]? = some row → row[j]? = some c → CV n J ks (f i j) c) → CV n J ks (.slice (n + k) g a m) (.islice rows)
  | fzp {k g s rs a b rows} (f : Nat → Nat → AV) : J[k]? = some (.rows g s rs) → k ∉ ks → rows.length = rs.length → (∀ row ∈ rows, row.length = s) →
      (∀ (i : Nat) row (j : Nat) c, rows[i]? = some row → row[j]? = some c → (∃ row0, rs[i]? = some row0 ∧ row0[j]? = some (f i j)) ∧ c.sc = true) →
      (∀ (i : Nat) row (j : Nat) c, rows[i]? = some row → row[j]? = some c → CV n J ks (f i j) c) → CV n J ks (.ptr (n + k) g a b) (.iptr rows a b)
  | agg {cs cs' : List AV} : cs'.length = cs.length → (∀ (i : Nat) c c', cs[i]? = some c → cs'[i]? = some c' → CV n J ks c c') → CV n J ks (.agg cs) (.agg cs')
  | tup {cs cs' : List AV} : cs'.length = cs.length → (∀ (i : Nat) c c', cs[i]? = some c → cs'[i]? = some c' → CV n J ks c c') → CV n J ks (.tup cs) (.tup cs')
  | func {f} {as as' bs bs' : List AV} : as'.length = as.length → bs'.length = bs.length → (∀ (i : Nat) c c', as[i]? = some c → as'[i]? = some c' → CV n J ks c c') →
      (∀ (i : Nat) c c', bs[i]? = some c → bs'[i]? = some c' → CV n J ks c c') → CV n J ks (.func f as bs) (.func f as' bs')

inductive BCV (n : Nat) (J : Heap) (ks : List Nat) : ABlk → ABlk → Prop
  | rows {g s rs rs'} : rs'.length = rs.length → (∀ row ∈ rs', row.length = s) →
      (∀ (i : Nat) row (j : Nat) c, rs'[i]? = some row → row[j]? = some c → (∃ row0 c0, rs[i]? = some row0 ∧ row0[j]? = some c0 ∧ CV n J ks c0 c) ∧ c.sc = true) → BCV n J ks (.rows g s rs) (.rows g s rs')
  | map {es clock} : (∀ (i : Nat) e, es[i]? = some e → Cl n e.1 ∧ Cl n e.2.1) → BCV n J ks (.map es clock) (.map es clock)

/-- The blocks that stay, with their new numbers; the others are nobody's. -/
def Ctx.retold (X : Ctx) (n : Nat) (ks : List Nat) : Ctx where
  blk r := if r < n then X.blk r else (ks[r - n]?).bind fun k => X.blk (n + k)
  owned b := X.owned b ∧ ¬∃ k bi, k ∉ ks ∧ X.blk (n + k) = some bi ∧ bi.B = b
  top := X.top

section
variable {X : Ctx} {w : World} {n : Nat} {J Hm : Heap} {ks : List Nat}

theorem retold_lt {r : Nat} (h : r < n) : (X.retold n ks).blk r = X.blk r := by simp [Ctx.retold, h]
theorem retold_ge {i k : Nat} (h : ks[i]? = some k) : (X.retold n ks).blk (n + i) = X.blk (n + k) := by simp [Ctx.retold, h, show ¬(n + i < n) by omega]
theorem retold_owned {b : Nat} (h : (X.retold n ks).owned b) : X.owned b := h.1
theorem retold_not {k : Nat} (hk : k ∉ ks) {bi : BI} (h : X.blk (n + k) = some bi) : ¬(X.retold n ks).owned bi.B := fun ho => ho.2 ⟨k, bi, hk, h, rfl⟩

theorem cl_retold {c : AV} {v : Value} (hc : Cl n c) (h : VRel X w c v) : VRel (X.retold n ks) w c v := by
  refine VRel.stepO (X := X.cut n) (X' := X.retold n ks) (fun _ _ _ => rfl) (Nat.le_refl _) (fun r bi hr => ?_) (fun b hb => .inl (show X.owned b from retold_owned (n := n) (ks := ks) hb)) (h.cut hc)
  simp only [Ctx.cut] at hr
  split at hr
  · rename_i hlt
    exact ⟨bi, by rw [retold_lt hlt]; exact hr, Nat.le_refl _, fun _ => rfl⟩
  · cases hr

theorem cv_ok (hn : Hm.length = n) (hH : HRel X (Hm ++ J) w) {c c' : AV} (h : CV n J ks c c') : ∀ {v : Value}, VRel X w c v → VRel (X.retold n ks) w c' v := by
  have blkJ : ∀ {k b bi}, J[k]? = some b → X.blk (n + k) = some bi → BRel X w bi b := by
    intro k b bi h1 h2
    obtain ⟨b', k1, k2⟩ := hH.blk _ _ h2
    rw [List.getElem?_append_right (by omega)] at k1
    have : n + k - Hm.length = k := by omega
    rw [this, h1] at k1
    cases k1
    exact k2
  induction h with
  | undef => intro v _; exact .undef
  | refl hc => intro v hv; exact cl_retold hc hv
  | nil0 => intro v hv; cases hv; exact .islice0
  | ptr hk =>
    intro v hv
    cases hv with
    | ptr h1 h2 h3 => exact .ptr (by rw [retold_ge hk]; exact h1) h2 h3
  | slice hk =>
    intro v hv
    cases hv with
    | slice h1 h2 h3 h4 => exact .slice (by rw [retold_ge hk]; exact h1) h2 h3 h4
  | map hk =>
    intro v hv
    cases hv with
    | map h1 h2 => exact .map (by rw [retold_ge hk]; exact h1) h2
  | fz f hJ hk hle hlen hs hcell hsub ih =>
    intro v hv
    rename_i k g s rs a m rows
    cases hv with
    | slice h1 h2 h3 h4 =>
      rename_i ad cap bi
      have hb := blkJ hJ h1
      cases hb with
      | rows e1 e2 e3 e4 e5 e6 e7 e8 =>
        subst e1 e2
        obtain ⟨q1, q2⟩ := h4 rfl
        have cellOf : ∀ (i : Nat) row (j : Nat) c, rows[i]? = some row → row[j]? = some c → ∃ u, w.cell? ⟨bi.B, bi.o + (a + i) * bi.sz + j, none⟩ = some u ∧ VRel X w (f i j) u := by
          intro i row j c a1 a2
          obtain ⟨⟨row0, b1, b2⟩, _⟩ := hcell i row j c a1 a2
          obtain ⟨u, c1, c2, c3⟩ := e8 _ row0 j _ b1 b2
          exact ⟨u, c1, c3⟩
        let F : Nat → Nat → Value := fun i j => (w.cell? ⟨bi.B, bi.o + (a + i) * bi.sz + j, none⟩).getD undef
        have pos : 0 < m → ad = ⟨bi.B, bi.o + a * bi.sz, none⟩ := fun h0 => q1 (by omega)
        refine .islice F hlen h3 hs (fun i row j c a1 a2 => ?_) (fun i row j c a1 a2 => ?_) (fun h0 => ?_)
        · have h0 : 0 < m := by have := (List.getElem?_eq_some_iff.1 a1).1; omega
          obtain ⟨u, c1, c2⟩ := cellOf i row j c a1 a2
          have had := pos h0
          subst had
          refine ⟨?_, (hcell i row j c a1 a2).2⟩
          have : bi.o + a * bi.sz + i * bi.sz + j = bi.o + (a + i) * bi.sz + j := by rw [Nat.add_mul]; omega
          simp only [this, F, c1, Option.getD_some]
        · obtain ⟨u, c1, c2⟩ := cellOf i row j c a1 a2
          have := ih i row j c a1 a2 c2
          simpa [F, c1] using this
        · have had := pos h0
          subst had
          exact ⟨retold_not hk h1, rfl, hH.old _ (hH.own _ _ h1)⟩
  | fzp f hJ hk hlen hs hcell hsub ih =>
    intro v hv
    rename_i k g s rs a b rows
    cases hv with
    | ptr h1 h2 h3 =>
      rename_i ad bi
      have hb := blkJ hJ h1
      cases hb with
      | rows e1 e2 e3 e4 e5 e6 e7 e8 =>
        subst e1 e2
        have had := h3 rfl
        subst had
        have cellOf : ∀ (i : Nat) row (j : Nat) c, rows[i]? = some row → row[j]? = some c → ∃ u, w.cell? ⟨bi.B, bi.o + i * bi.sz + j, none⟩ = some u ∧ VRel X w (f i j) u := by
          intro i row j c a1 a2
          obtain ⟨⟨row0, b1, b2⟩, _⟩ := hcell i row j c a1 a2
          obtain ⟨u, c1, c2, c3⟩ := e8 _ row0 j _ b1 b2
          exact ⟨u, c1, c3⟩
        let F : Nat → Nat → Value := fun i j => (w.cell? ⟨bi.B, bi.o + i * bi.sz + j, none⟩).getD undef
        refine .iptr F hs (fun i row j c a1 a2 => ?_) (fun i row j c a1 a2 => ?_) (retold_not hk h1) (hH.old _ (hH.own _ _ h1))
        · obtain ⟨u, c1, c2⟩ := cellOf i row j c a1 a2
          refine ⟨?_, (hcell i row j c a1 a2).2⟩
          simp only [F, c1, Option.getD_some]
        · obtain ⟨u, c1, c2⟩ := cellOf i row j c a1 a2
          have := ih i row j c a1 a2 c2
          simpa [F, c1] using this
  | agg hl hsub ih =>
    intro v hv
    cases hv with
    | agg h1 h2 =>
      rename_i cs cs' vs
      refine .agg (by omega) (fun i c' v a1 a2 => ?_)
      obtain ⟨c, hc⟩ : ∃ c, cs[i]? = some c := ⟨cs[i]'(by have := (List.getElem?_eq_some_iff.1 a1).1; omega), by simp⟩
      exact ih i c c' hc a1 (h2 i c v hc a2)
  | tup hl hsub ih =>
    intro v hv
    cases hv with
    | tup h1 h2 =>
      rename_i cs cs' vs
      refine .tup (by omega) (fun i c' v a1 a2 => ?_)
      obtain ⟨c, hc⟩ : ∃ c, cs[i]? = some c := ⟨cs[i]'(by have := (List.getElem?_eq_some_iff.1 a1).1; omega), by simp⟩
      exact ih i c c' hc a1 (h2 i c v hc a2)
  | func hl1 hl2 hs1 hs2 i1 i2 =>
    intro v hv
    cases hv with
    | func h1 h2 h3 h4 =>
      rename_i f as as' bs bs' us vs
      refine .func (by omega) (by omega) (fun i c' v a1 a2 => ?_) (fun i c' v a1 a2 => ?_)
      · obtain ⟨c, hc⟩ : ∃ c, as[i]? = some c := ⟨as[i]'(by have := (List.getElem?_eq_some_iff.1 a1).1; omega), by simp⟩
        exact i1 i c c' hc a1 (h3 i c v hc a2)
      · obtain ⟨c, hc⟩ : ∃ c, bs[i]? = some c := ⟨bs[i]'(by have := (List.getElem?_eq_some_iff.1 a1).1; omega), by simp⟩
        exact i2 i c c' hc a1 (h4 i c v hc a2)

/-- What it takes to tell the heap Hm ++ J anew as Hm ++ J'. -/
structure Retell (H0 Hm J : Heap) (ks : List Nat) (J' : Heap) : Prop where
  len : Hm.length = H0.length
  old : ∀ (r : Nat) b, Hm[r]? = some b → H0[r]? = some b ∨ BCl H0.length b
  nodup : ks.Nodup
  size : J'.length = ks.length
  blks : ∀ (i : Nat) k b', ks[i]? = some k → J'[i]? = some b' → J[k]? = none ∨ ∃ b, J[k]? = some b ∧ BCV H0.length J ks b b'

theorem retell_core {H0 Hm J J' : Heap} (hr : Retell H0 Hm J ks J') {X0 X : Ctx} {w0 w : World} (h0 : HRel X0 H0 w0) (ht : X0.top = H0.length) (hs : Stp X0 w0 X w) (hH : HRel X (Hm ++ J) w) :
    HRel (X.retold H0.length ks) (Hm ++ J') w ∧ Stp X0 w0 (X.retold H0.length ks) w := by
  have hX0 : ∀ r, H0.length ≤ r → X0.blk r = none := fun r hr => h0.free hr
  have new : ∀ r bi, H0.length ≤ r → X.blk r = some bi → w0.heap.size ≤ bi.B := by
    intro r bi h1 h2
    rcases hs.fresh r bi h2 with h | ⟨bi0, h, _⟩
    · exact h
    · rw [hX0 r h1] at h; cases h
  -- where a block of the new telling comes from
  have src : ∀ r bi, (X.retold H0.length ks).blk r = some bi → (r < H0.length ∧ X.blk r = some bi) ∨ (∃ i k, r = H0.length + i ∧ ks[i]? = some k ∧ X.blk (H0.length + k) = some bi) := by
    intro r bi hr
    by_cases hlt : r < H0.length
    · rw [retold_lt hlt] at hr; exact .inl ⟨hlt, hr⟩
    · simp only [Ctx.retold, hlt, if_false, Option.bind_eq_some_iff] at hr
      obtain ⟨k, h1, h2⟩ := hr
      exact .inr ⟨r - H0.length, k, by omega, h1, h2⟩
  refine ⟨⟨fun r bi hb => ?_, fun r r' bi bi' h1 h2 e => ?_, fun r bi hb => ?_, fun b hb => hH.old b hb.1, ?_⟩, ⟨hs.size, hs.os, hs.tape, hs.output, hs.frame, fun r bi hb => ?_, fun b hb => ⟨hs.owned b hb, ?_⟩, fun r bi hb => ?_, fun b hb => hs.new b hb.1, hs.top, fun r bi hb => ?_⟩⟩
  · rcases src r bi hb with ⟨hlt, hx⟩ | ⟨i, k, rfl, hk, hx⟩
    · obtain ⟨b, k1, k2⟩ := hH.blk r bi hx
      have hlt' : r < Hm.length := by rw [hr.len]; exact hlt
      rw [List.getElem?_append_left hlt'] at k1
      refine ⟨b, by rw [List.getElem?_append_left hlt']; exact k1, ?_⟩
      have hcl : BCl H0.length b := by
        rcases hr.old r b k1 with h | h
        · rcases hs.later r bi hx with ⟨bi0, hb0⟩ | hl
          · obtain ⟨b', m1, m2⟩ := h0.blk r bi0 hb0
            rw [h] at m1
            cases m1
            exact bcl_of_rel (fun r bi hr => Nat.lt_of_not_le fun hle => by rw [hX0 r hle] at hr; cases hr) m2
          · omega
        · exact h
      cases k2 with
      | rows e1 e2 e3 e4 e5 e6 e7 e8 =>
        cases hcl with
        | rows hc =>
          refine .rows e1 e2 e3 e4 e5 e6 e7 (fun i row j c a b => ?_)
          obtain ⟨v, q1, q2, q3⟩ := e8 i row j c a b
          exact ⟨v, q1, q2, cl_retold (hc i row j c a b) q3⟩
      | map e1 e2 e3 e4 =>
        cases hcl with
        | map hc => exact .map e1 e2 e3 (fun i e m a b => ⟨cl_retold (hc i e a).1 (e4 i e m a b).key, cl_retold (hc i e a).2 (e4 i e m a b).val, (e4 i e m a b).born⟩)
    · have hi : i < J'.length := by rw [hr.size]; exact (List.getElem?_eq_some_iff.1 hk).1
      obtain ⟨b', hb'⟩ : ∃ b', J'[i]? = some b' := ⟨J'[i], by simp [hi]⟩
      have hJs : ∃ b, J[k]? = some b := by
        obtain ⟨b2, k1, k2⟩ := hH.blk _ _ hx
        rw [List.getElem?_append_right (by rw [hr.len]; omega), hr.len, Nat.add_sub_cancel_left] at k1
        exact ⟨_, k1⟩
      obtain ⟨b, hJ, hcv⟩ := (hr.blks i k b' hk hb').resolve_left (fun e => by rw [e] at hJs; obtain ⟨_, h⟩ := hJs; cases h)
      have hnew : (Hm ++ J')[H0.length + i]? = some b' := by
        rw [List.getElem?_append_right (by rw [hr.len]; omega), hr.len, Nat.add_sub_cancel_left]
        exact hb'
      refine ⟨b', hnew, ?_⟩
      obtain ⟨b2, k1, k2⟩ := hH.blk _ _ hx
      rw [List.getElem?_append_right (by rw [hr.len]; omega), hr.len, Nat.add_sub_cancel_left, hJ] at k1
      cases k1
      cases hcv with
      | rows hl hrow hcell =>
        cases k2 with
        | rows e1 e2 e3 e4 e5 e6 e7 e8 =>
          refine .rows e1 e2 e3 e4 e5 (fun row hr => by rw [hrow row hr]; exact e2) (by rw [hl]; exact e7) (fun i row j c a b => ?_)
          obtain ⟨⟨row0, c0, q1, q2, q3⟩, q4⟩ := hcell i row j c a b
          obtain ⟨v, m1, m2, m3⟩ := e8 i row0 j c0 q1 q2
          exact ⟨v, m1, q4, cv_ok hr.len hH q3 m3⟩
      | map hc =>
        cases k2 with
        | map e1 e2 e3 e4 => exact .map e1 e2 e3 (fun i e m a b => ⟨cl_retold (hc i e a).1 (e4 i e m a b).key, cl_retold (hc i e a).2 (e4 i e m a b).val, (e4 i e m a b).born⟩)
  · rcases src r bi h1 with ⟨a1, a2⟩ | ⟨i, k, rfl, a1, a2⟩ <;> rcases src r' bi' h2 with ⟨b1, b2⟩ | ⟨i', k', rfl, b1, b2⟩
    · exact hH.inj _ _ _ _ a2 b2 e
    · have := hH.inj _ _ _ _ a2 b2 e; omega
    · have := hH.inj _ _ _ _ a2 b2 e; omega
    · have := hH.inj _ _ _ _ a2 b2 e
      have hkk : k = k' := by omega
      subst hkk
      obtain ⟨l1, e1⟩ := List.getElem?_eq_some_iff.1 a1
      obtain ⟨l2, e2⟩ := List.getElem?_eq_some_iff.1 b1
      have := (List.getElem_inj hr.nodup).1 (e1.trans e2.symm)
      omega
  · rcases src r bi hb with ⟨a1, a2⟩ | ⟨i, k, rfl, a1, a2⟩
    · refine ⟨hH.own _ _ a2, ?_⟩
      rintro ⟨k, bi', b1, b2, b3⟩
      have := hH.inj _ _ _ _ a2 b2 b3.symm
      omega
    · refine ⟨hH.own _ _ a2, ?_⟩
      rintro ⟨k', bi', b1, b2, b3⟩
      have := hH.inj _ _ _ _ a2 b2 b3.symm
      have hkk : k = k' := by omega
      subst hkk
      exact b1 (List.mem_of_getElem? a1)
  · have h1 := hs.top
    have : (X.retold H0.length ks).top = H0.length := by simp only [Ctx.retold]; omega
    rw [this, List.length_append, hr.len]
    omega
  · have hlt : r < H0.length := Nat.lt_of_not_le fun hle => by rw [hX0 r hle] at hb; cases hb
    obtain ⟨bi', h1, h2, h3⟩ := hs.mono r bi hb
    exact ⟨bi', by rw [retold_lt hlt]; exact h1, h2, h3⟩
  · rintro ⟨k, bi, h1, h2, rfl⟩
    have := new _ _ (by omega) h2
    have := h0.old _ hb
    omega
  · rcases src r bi hb with ⟨a1, a2⟩ | ⟨i, k, rfl, a1, a2⟩
    · exact hs.fresh r bi a2
    · exact .inl (new _ _ (by omega) a2)
  · rcases src r bi hb with ⟨a1, a2⟩ | ⟨i, k, rfl, a1, a2⟩
    · exact hs.later r bi a2
    · exact .inr (by omega)

theorem Conv.of {H0 Hm J J' : Heap} {ks : List Nat} (hr : Retell H0 Hm J ks J') {σ σ' : Env} (hσ : ∀ t, CV H0.length J ks (σ.get t) (σ'.get t)) : Conv H0 σ (Hm ++ J) σ' (Hm ++ J') := by
  intro X0 w0 X w tmps h0 ht hs hH hF
  obtain ⟨k1, k2⟩ := retell_core hr h0 ht hs hH
  exact ⟨_, k1, fun t => cv_ok hr.len hH (hσ t) (hF t), k2⟩

theorem Fin.of {H0 Hm J J' : Heap} {ks : List Nat} (hr : Retell H0 Hm J ks J') {v1 v : AV} (hv : CV H0.length J ks v1 v) : Fin H0 v1 (Hm ++ J) v (Hm ++ J') := by
  intro X0 w0 X w u h0 ht hs hH hu
  obtain ⟨k1, k2⟩ := retell_core hr h0 ht hs hH
  exact ⟨_, k1, cv_ok hr.len hH hv hu, k2⟩

end

/-- A slice of the call's own, immutable from here on. -/
theorem CV.freeze {n : Nat} {J : Heap} {ks : List Nat} {k g s a m : Nat} {rs : List Row} (hJ : J[k]? = some (.rows g s rs)) (hk : k ∉ ks) (hle : a + m ≤ rs.length) (hs : ∀ row ∈ rs, row.length = s)
    (hcl : ∀ row ∈ rs, ∀ c ∈ row, c.sc = true ∧ Cl n c) : CV n J ks (.slice (n + k) g a m) (.islice ((rs.drop a).take m)) := by
  have hin : ∀ (i : Nat) row, ((rs.drop a).take m)[i]? = some row → rs[a + i]? = some row := by
    intro i row h
    rw [List.getElem?_take] at h
    split at h
    · rw [List.getElem?_drop] at h; exact h
    · cases h
  refine .fz (fun i j => (((rs[a + i]?).getD [])[j]?).getD .undef) hJ hk hle (by simp; omega) (fun row hr => hs row (List.mem_of_mem_drop (List.mem_of_mem_take hr))) (fun i row j c h1 h2 => ?_) (fun i row j c h1 h2 => ?_)
  · have h3 := hin i row h1
    exact ⟨⟨row, h3, by simp [h3, h2]⟩, (hcl row (List.mem_of_getElem? h3) c (List.mem_of_getElem? h2)).1⟩
  · have h3 := hin i row h1
    simp only [h3, Option.getD_some, h2]
    exact .refl (hcl row (List.mem_of_getElem? h3) c (List.mem_of_getElem? h2)).2

theorem Retell.drop {J : Heap} : Retell [] [] J [] [] := ⟨rfl, by simp, by simp, rfl, by simp⟩

theorem env_cv {n : Nat} {J : Heap} {ks : List Nat} {σ : Env} : ∀ {σ' : Env}, (∀ p ∈ σ', CV n J ks (σ.get p.1) p.2) → ∀ t, CV n J ks (σ.get t) (σ'.get t)
  | [], _, t => .undef
  | (s, v) :: σ', h, t => by
    simp only [Env.get]
    by_cases e : s = t
    · subst e; rw [if_pos rfl]; exact h (s, v) (by simp)
    · rw [if_neg e]; exact env_cv (fun p hp => h p (by simp [hp])) t

/-- Everything that this call made is given up; what stays is told anew. -/
theorem conv_drop {J : Heap} {σ σ' : Env} (h : ∀ p ∈ σ', CV 0 J [] (σ.get p.1) p.2) : Conv [] σ J σ' [] := Conv.of (H0 := []) (Hm := []) (J' := []) .drop (env_cv h)
/-- What this call laid behind the heap that it found is given up; blocks of that heap may have plain rows now. -/
theorem conv_tmp {H0 Hm J : Heap} (hl : Hm.length = H0.length) (ho : ∀ (r : Nat) b, Hm[r]? = some b → H0[r]? = some b ∨ BCl H0.length b) {σ σ' : Env} (h : ∀ p ∈ σ', CV H0.length J [] (σ.get p.1) p.2) : Conv H0 σ (Hm ++ J) σ' Hm := by
  have := Conv.of (H0 := H0) (Hm := Hm) (J := J) (J' := []) (ks := []) ⟨hl, ho, by simp, rfl, by simp⟩ (env_cv h)
  rwa [List.append_nil] at this
theorem fin_tmp {H0 Hm J : Heap} (hl : Hm.length = H0.length) (ho : ∀ (r : Nat) b, Hm[r]? = some b → H0[r]? = some b ∨ BCl H0.length b) {v1 v : AV} (h : CV H0.length J [] v1 v) : Fin H0 v1 (Hm ++ J) v Hm := by
  have := Fin.of (H0 := H0) (Hm := Hm) (J := J) (J' := []) (ks := []) ⟨hl, ho, by simp, rfl, by simp⟩ h
  rwa [List.append_nil] at this
theorem set_old {H0 : Heap} {k : Nat} {blk : ABlk} (hb : BCl H0.length blk) : ∀ (r : Nat) b, (H0.set k blk)[r]? = some b → H0[r]? = some b ∨ BCl H0.length b := by
  intro r b h
  by_cases e : k = r
  · subst e
    have hlt : k < H0.length := by have := (List.getElem?_eq_some_iff.1 h).1; simpa using this
    rw [List.getElem?_set_self hlt] at h
    cases h
    exact .inr hb
  · rw [List.getElem?_set_ne e] at h
    exact .inl h

theorem fin_drop {J : Heap} {v1 v : AV} (h : CV 0 J [] v1 v) : Fin [] v1 J v [] := Fin.of (H0 := []) (Hm := []) (J' := []) .drop h

end Go.Ab
