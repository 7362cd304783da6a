/-
  Contracts of pure calls hold in any heap; slices of the caller's own may be lent to them.
  Conditions: none.
-/
import Derived.Test.YtomakhllonkpiaaAbEval
import Derived.Test.YtomakhllonkpiaaAbCode
namespace Go.Ab

/-- Nothing that refers to memory. -/
inductive Flat : AV → Prop
  | undef : Flat .undef
  | int {k n} : Flat (.int k n)
  | bool {b} : Flat (.bool b)
  | str {s} : Flat (.str s)
  | nilp : Flat .nilp
  | nils : Flat .nils
  | nilf : Flat .nilf
  | nilmap : Flat .nilmap
  | nilI : Flat .nilI
  | agg {cs : List AV} : (∀ (i : Nat) c, cs[i]? = some c → Flat c) → Flat (.agg cs)
  | tup {cs : List AV} : (∀ (i : Nat) c, cs[i]? = some c → Flat c) → Flat (.tup cs)

theorem Flat.rel {X X' : Ctx} {w w' : World} {c : AV} (hf : Flat c) : ∀ {v : Value}, VRel X w c v → VRel X' w' c v := by
  induction hf with
  | undef => intro v _; exact .undef
  | int => intro v h; cases h; exact .int
  | bool => intro v h; cases h; exact .bool
  | str => intro v h; cases h; exact .str (by assumption)
  | nilp => intro v h; cases h; exact .nilp
  | nils => intro v h; cases h; exact .nils
  | nilf => intro v h; cases h; exact .nilf
  | nilmap => intro v h; cases h; exact .nilmap
  | nilI => intro v h; cases h; exact .nilI
  | agg _ ih =>
    intro v h
    cases h with
    | agg h1 h2 => exact .agg h1 (fun i c v a b => ih i c a (h2 i c v a b))
  | tup _ ih =>
    intro v h
    cases h with
    | tup h1 h2 => exact .tup h1 (fun i c v a b => ih i c a (h2 i c v a b))

theorem HRel.dom {X : Ctx} {H : Heap} {w : World} (hH : HRel X H w) : ∀ r bi, X.blk r = some bi → r < H.length := by
  intro r bi hr
  obtain ⟨b, k1, _⟩ := hH.blk r bi hr
  exact (List.getElem?_eq_some_iff.1 k1).1

/-- Back from a call that knew nothing of the caller's blocks. -/
theorem back_from {X X1 X' : Ctx} {H H' : Heap} {w w' : World} (hH : HRel X H w) (hb1 : ∀ r, X1.blk r = none) (ho1 : ∀ b, X1.owned b → X.owned b) (hs : Stp X1 w X' w') (hH' : HRel X' H' w') :
    HRel ⟨X.blk, fun b => X.owned b ∨ X'.owned b, X.top⟩ H w' ∧ Stp X w ⟨X.blk, fun b => X.owned b ∨ X'.owned b, X.top⟩ w' := by
  have same : ∀ b, b < w.heap.size → w'.heap[b]? = w.heap[b]? := fun b hb => hs.frame b hb (fun r bi hr => by rw [hb1 r] at hr; cases hr)
  have st : Stp X w ⟨X.blk, fun b => X.owned b ∨ X'.owned b, X.top⟩ w' :=
    ⟨hs.size, hs.os, hs.tape, hs.output, fun b hb _ => same b hb, fun r bi hr => ⟨bi, hr, Nat.le_refl _, fun _ => rfl⟩, fun b hb => .inl hb, fun r bi hr => .inr ⟨bi, hr, rfl⟩,
      fun b hb => by
        rcases hb with hb | hb
        · exact .inl hb
        · rcases hs.new b hb with h | h
          · exact .inl (ho1 b h)
          · exact .inr h, rfl, fun r bi hr => .inl ⟨bi, hr⟩⟩
  refine ⟨⟨fun r bi hr => ?_, hH.inj, fun r bi hr => .inl (hH.own r bi hr), fun b hb => ?_, hH.top⟩, st⟩
  · obtain ⟨b, k1, k2⟩ := hH.blk r bi hr
    exact ⟨b, k1, BRel.keep hH st k2 (same _ (hH.old _ (hH.own r bi hr)))⟩
  · rcases hb with hb | hb
    · exact Nat.lt_of_lt_of_le (hH.old b hb) hs.size
    · exact hH'.old b hb

/-- A call of pure arguments with a pure result holds in any heap. -/
theorem Spec.frame {P : Program} {f : Nat} {args : List AV} {v : AV} {H' : Heap} (h : Spec P f args [] v H') (ha : ∀ (i : Nat) c, args[i]? = some c → Cl 0 c) (hv : Cl 0 v) (H : Heap) : Spec P f args H v H := by
  refine ⟨h.1, fun X w vs hH hvs => ?_⟩
  have hb1 : ∀ r, (X.cut 0).blk r = none := fun r => by simp [Ctx.cut]
  have h1 : HRel (X.cut 0) [] w := ⟨fun r bi hr => (by rw [hb1 r] at hr; cases hr), fun r r' bi bi' hr => (by rw [hb1 r] at hr; cases hr), fun r bi hr => (by rw [hb1 r] at hr; cases hr), hH.old, Nat.le_refl _⟩
  have h2 : VRels (X.cut 0) w args vs := ⟨hvs.1, fun i c u a b => (hvs.2 i c u a b).cut (ha i c a)⟩
  refine (h.2 (X.cut 0) w vs h1 h2).mono ?_
  rintro e w' ⟨v', X', rfl, k1, k2, k3⟩
  obtain ⟨q1, q2⟩ := back_from (H' := H') hH hb1 (fun b hb => hb) k3 k2
  refine ⟨v', _, rfl, ?_, q1, q2⟩
  have h3 := k1.cut (n := 0) hv
  refine VRel.stepO (X := X'.cut 0) (fun _ _ _ => rfl) (Nat.le_refl _) (fun r bi hr => by simp [Ctx.cut] at hr) (fun b hb => ?_) h3
  rcases hb with hb | hb
  · exact .inl (k3.owned b hb)
  · exact .inl hb

/-- A value of the caller's own, as one that only reads may see it. -/
inductive Lend (H : Heap) : AV → AV → Prop
  | pure {c} : Cl 0 c → Lend H c c
  | nils : Lend H .nils (.islice [])
  | slice {r g i n rows} : elems H (.slice r g i n) = some rows → (∀ (i : Nat) row (j : Nat) c, rows[i]? = some row → row[j]? = some c → Cl 0 c) → Lend H (.slice r g i n) (.islice rows)
  | agg {cs cs' : List AV} : cs'.length = cs.length → (∀ (i : Nat) c c', cs[i]? = some c → cs'[i]? = some c' → Lend H c c') → Lend H (.agg cs) (.agg cs')

theorem cl0_rel {X X' : Ctx} {w : World} (ho : ∀ b, X'.owned b → X.owned b) {c : AV} {v : Value} (hc : Cl 0 c) (h : VRel X w c v) : VRel X' w c v :=
  VRel.stepO (X := X.cut 0) (fun _ _ _ => rfl) (Nat.le_refl _) (fun r bi hr => by simp [Ctx.cut] at hr) (fun b hb => .inl (show X.owned b from ho b hb)) (h.cut hc)

theorem lend_ok {X X1 : Ctx} {H : Heap} {w : World} (hH : HRel X H w) (ho1 : ∀ b, ¬X1.owned b) {c c' : AV} (h : Lend H c c') : ∀ {v : Value}, VRel X w c v → VRel X1 w c' v := by
  induction h with
  | pure hc => intro v hv; exact cl0_rel (fun b hb => absurd hb (ho1 b)) hc hv
  | nils => intro v hv; cases hv; exact .islice0
  | @slice r g i n rows he hcl =>
    intro v hv
    cases hv with
    | slice h1 h2 h3 h4 =>
      rename_i a cap bi
      simp only [elems, Option.bind_eq_some_iff] at he
      obtain ⟨rs, hrs, he⟩ := he
      unfold req at he
      split at he
      case isFalse => cases he
      rename_i hle
      simp only [Option.some.injEq] at he
      subst he
      unfold Heap.rowsOf at hrs
      split at hrs
      case h_2 => cases hrs
      rename_i g' s rs' hb
      split at hrs
      case isFalse => cases hrs
      rename_i hgg
      subst hgg
      simp only [Option.some.injEq] at hrs
      subst hrs
      have hbr := hH.at hb h1
      cases hbr with
      | rows e1 e2 e3 e4 e5 e6 e7 e8 =>
        obtain ⟨q1, q2⟩ := h4 e1
        have cellOf : ∀ (k : Nat) row (j : Nat) c, ((rs'.drop i).take n)[k]? = some row → row[j]? = some c → ∃ u, w.cell? ⟨bi.B, bi.o + (i + k) * bi.sz + j, none⟩ = some u ∧ c.sc = true ∧ VRel X w c u := by
          intro k row j c a1 a2
          have : rs'[i + k]? = some row := by
            rw [List.getElem?_take] at a1
            split at a1
            · rw [List.getElem?_drop] at a1; exact a1
            · cases a1
          exact e8 _ row j c this a2
        have hlen : ((rs'.drop i).take n).length = n := by simp; omega
        refine .islice (s := bi.sz) (fun k j => (w.cell? ⟨bi.B, bi.o + (i + k) * bi.sz + j, none⟩).getD undef) hlen h3 (fun row hr => e6 row (List.mem_of_mem_drop (List.mem_of_mem_take hr))) (fun k row j c a1 a2 => ?_) (fun k row j c a1 a2 => ?_) (fun h0 => ?_)
        · obtain ⟨u, c1, c2, c3⟩ := cellOf k row j c a1 a2
          have h0 : 0 < n := by have := (List.getElem?_eq_some_iff.1 a1).1; omega
          have had := q1 (by omega)
          subst had
          refine ⟨?_, c2⟩
          have : bi.o + i * bi.sz + k * bi.sz + j = bi.o + (i + k) * bi.sz + j := by rw [Nat.add_mul]; omega
          simp only [this, c1, Option.getD_some]
        · obtain ⟨u, c1, c2, c3⟩ := cellOf k row j c a1 a2
          simp only [c1, Option.getD_some]
          exact cl0_rel (fun b hb => absurd hb (ho1 b)) (hcl k row j c a1 a2) c3
        · have had := q1 (by omega)
          subst had
          exact ⟨ho1 _, rfl, hH.old _ (hH.own _ _ h1)⟩
  | @agg cs cs' hl _ ih =>
    intro v hv
    cases hv with
    | agg h1 h2 =>
      refine .agg (by omega) (fun i c' v a1 a2 => ?_)
      obtain ⟨c, hc⟩ : ∃ c, cs[i]? = some c := ⟨cs[i]'(by have := (List.getElem?_eq_some_iff.1 a1).1; omega), by simp⟩
      exact ih i c c' hc a1 (h2 i c v hc a2)

/-- A call with a flat result: its arguments may be lent. -/
theorem Spec.lend {P : Program} {f : Nat} {args args' : List AV} {v : AV} {H' : Heap} (h : Spec P f args' [] v H') {H : Heap} (hl : args'.length = args.length) (ha : ∀ (i : Nat) c c', args[i]? = some c → args'[i]? = some c' → Lend H c c') (hv : Flat v) : Spec P f args H v H := by
  refine ⟨h.1, fun X w vs hH hvs => ?_⟩
  let X1 : Ctx := ⟨fun _ => none, fun _ => False, 0⟩
  have h1 : HRel X1 [] w := ⟨fun r bi hr => (by cases hr), fun r r' bi bi' hr => (by cases hr), fun r bi hr => (by cases hr), fun b hb => False.elim hb, Nat.le_refl _⟩
  have h2 : VRels X1 w args' vs := ⟨by rw [hl]; exact hvs.1, fun i c' u a b => by
    obtain ⟨c, hc⟩ : ∃ c, args[i]? = some c := ⟨args[i]'(by have := (List.getElem?_eq_some_iff.1 a).1; omega), by simp⟩
    exact lend_ok hH (fun b hb => hb) (ha i c c' hc a) (hvs.2 i c u hc b)⟩
  refine (h.2 X1 w vs h1 h2).mono ?_
  rintro e w' ⟨v', X', rfl, k1, k2, k3⟩
  obtain ⟨q1, q2⟩ := back_from (H' := H') hH (X1 := X1) (fun _ => rfl) (fun b hb => False.elim hb) k3 k2
  exact ⟨v', _, rfl, hv.rel k1, q1, q2⟩

end Go.Ab
