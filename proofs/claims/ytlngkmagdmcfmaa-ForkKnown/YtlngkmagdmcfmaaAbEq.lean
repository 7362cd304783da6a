/-
  Equality by the kind of a type, and maps: under the relation.
  Conditions: none.
-/
import Derived.Test.YtlngkmagdmcfmaaAbOps3
import Derived.Laws.StructEq
namespace Go.Ab

def flatFs (flat : TypeId → Option (List Nat)) : List Field → Nat → Option (List Nat)
  | [], _ => some []
  | f :: fs, acc => if f.name ≠ "_" ∧ f.offset = acc then (flat f.type).bind fun ks => (flatFs flat fs (acc + ks.length)).bind fun ks' => some (ks ++ ks') else none

/-- Types whose values are plain cells that '==' compares one by one: the cells' kinds. -/
def flatTy (P : Program) : Nat → TypeId → Option (List Nat)
  | 0, _ => none
  | d + 1, t => match P.underlying t with
    | some (.int _) => if P.cellsOf t = 1 then some [0] else none
    | some .bool => if P.cellsOf t = 1 then some [1] else none
    | some .string => if P.cellsOf t = 1 then some [2] else none
    | some (.struct fs) => if P.stoodInHeld t = false then (flatFs (flatTy P d) fs.toList 0).bind fun ks => if P.cellsOf t = ks.length then some ks else none else none
    | _ => none

theorem cellsEq_append {k1 k2 : List Nat} {l m : List AV} {r : Bool} (h : cellsEq (k1 ++ k2) l m = some r) :
    ∃ r1 r2, cellsEq k1 (l.take k1.length) (m.take k1.length) = some r1 ∧ cellsEq k2 (l.drop k1.length) (m.drop k1.length) = some r2 ∧ r = (r1 && r2) := by
  induction k1 generalizing l m r with
  | nil => exact ⟨true, r, by simp [cellsEq], by simpa using h, by simp⟩
  | cons k k1 ih =>
    cases l <;> cases m <;> simp only [List.cons_append, cellsEq, Option.bind_eq_some_iff, Option.some.injEq, reduceCtorEq] at h
    rename_i a l b m
    obtain ⟨x, h1, y, h2, rfl⟩ := h
    obtain ⟨r1, r2, q1, q2, rfl⟩ := ih h2
    exact ⟨x && r1, r2, by simp [cellsEq, h1, q1], by simpa using q2, by simp [Bool.and_assoc]⟩

theorem cellsEq_len {ks : List Nat} {l m : List AV} {r : Bool} (h : cellsEq ks l m = some r) : l.length = ks.length ∧ m.length = ks.length := by
  induction ks generalizing l m r with
  | nil => cases l <;> cases m <;> simp_all [cellsEq]
  | cons k ks ih =>
    cases l <;> cases m <;> simp only [cellsEq, Option.bind_eq_some_iff, Option.some.injEq, reduceCtorEq] at h
    obtain ⟨x, h1, y, h2, rfl⟩ := h
    obtain ⟨a, b⟩ := ih h2
    simp [a, b]

def aggD : TypeDesc → Bool
  | .struct _ | .array _ _ => true
  | _ => false

theorem isAgg_run {P : Program} {t : TypeId} {d : TypeDesc} (h : P.underlying t = some d) (w : World) : (isAgg t).run P w = .ok (aggD d) w := by
  unfold isAgg
  rw [Sem.run_bind, run_underlying h, Result.andThen_ok]
  cases d <;> rfl

theorem info_of_underlying {P : Program} {t : TypeId} {d : TypeDesc} (h : P.underlying t = some d) : (P.info? t).isSome = true := by
  unfold Program.underlying at h
  split at h
  · rename_i e; simp [e]
  · rename_i e; simp [e]
  · cases h

theorem cellsOf_run {P : Program} {t : TypeId} {d : TypeDesc} (hu : P.underlying t = some d) (w : World) : (sizeOf t).run P w = .ok (P.cellsOf t) w := by
  obtain ⟨i, hi⟩ := Option.isSome_iff_exists.1 (info_of_underlying hu)
  simp [sizeOf, typeInfo, hi, Program.cellsOf]

theorem beq_data (a b : ByteArray) : (a == b) = decide (a.data.toList = b.data.toList) := by
  rw [beq_toListBytes, ByteArray.toList_eq, ByteArray.toList_eq, Bool.eq_iff_iff]
  simp

/-- One cell of a plain type. -/
theorem cell_run {P : Program} {X : Ctx} {w : World} {t : TypeId} {d : TypeDesc} (hu : P.underlying t = some d) {k : Nat} (hk : (∃ q, d = .int q) ∧ k = 0 ∨ d = .bool ∧ k = 1 ∨ d = .string ∧ k = 2)
    {a b : AV} {u v : Value} (ha : VRel X w a u) (hb : VRel X w b v) {r : Bool} (h : cellEq k a b = some r) (D : Nat) : (Op.equalIn (D + 1) t u v).run P w = .ok r w := by
  rcases hk with ⟨⟨q, rfl⟩, rfl⟩ | ⟨rfl, rfl⟩ | ⟨rfl, rfl⟩
  · cases a <;> simp only [cellEq, reduceCtorEq] at h
    cases b <;> simp only [reduceCtorEq] at h
    split at h
    · rename_i e; subst e; cases h; cases ha; cases hb
      rw [run_equalIn_int w D t _ q _ _ hu]
      congr 1
    · cases h
  · cases a <;> simp only [cellEq, reduceCtorEq] at h
    cases b <;> simp only [reduceCtorEq, Option.some.injEq] at h
    subst h; cases ha; cases hb
    exact run_equalIn_bool' w D t _ _ hu
  · cases a <;> simp only [cellEq, reduceCtorEq] at h
    cases b <;> simp only [reduceCtorEq, Option.some.injEq] at h
    subst h; cases ha; cases hb
    rename_i x hx y hy
    subst hx hy
    rw [run_equalIn_string w D t _ _ hu]
    congr 1
    rw [ByteArray.toList_eq, ByteArray.toList_eq, Bool.eq_iff_iff]; simp

/-- A value of a type, out of its cells. -/
def whole (P : Program) (t : TypeId) (us : List Value) : Value :=
  match P.underlying t with
  | some (.struct _) => .agg us.toArray
  | _ => us.getD 0 undef

theorem flatFs_run {P : Program} {X : Ctx} {w : World} {D : Nat} {flat : TypeId → Option (List Nat)}
    (hf : ∀ t ks, flat t = some ks → P.cellsOf t = ks.length ∧ (∃ d, P.underlying t = some d ∧ ((∃ fs, d = .struct fs) ∨ ((∀ fs, d ≠ .struct fs) ∧ (∀ n e, d ≠ .array n e) ∧ ks.length = 1))) ∧
      ∀ as bs us vs r, VRels X w as us → VRels X w bs vs → cellsEq ks as bs = some r → (Op.equalIn D t (whole P t us) (whole P t vs)).run P w = .ok r w) :
    ∀ (fs : List Field) (acc : Nat) (ks : List Nat), flatFs flat fs acc = some ks → ∀ (as bs : List AV) (us vs : List Value) (r : Bool), VRels X w as us → VRels X w bs vs → cellsEq ks (as.drop acc) (bs.drop acc) = some r →
      (Op.eqFields D us.toArray vs.toArray fs).run P w = .ok r w
  | [], acc, ks, h, as, bs, us, vs, r, _, _, he => by
    simp only [flatFs, Option.some.injEq] at h
    subst h
    cases h1 : as.drop acc <;> cases h2 : bs.drop acc <;> rw [h1, h2] at he <;> simp [cellsEq] at he
    subst he
    simp [Op.eqFields]
  | f :: fs, acc, ks, h, as, bs, us, vs, r, ha, hb, he => by
    simp only [flatFs] at h
    split at h
    case isFalse => cases h
    rename_i hn
    obtain ⟨hn, ho⟩ := hn
    simp only [Option.bind_eq_some_iff, Option.some.injEq] at h
    obtain ⟨k1, h1, k2, h2, rfl⟩ := h
    obtain ⟨hc, ⟨d, hu, hd⟩, hrun⟩ := hf f.type k1 h1
    obtain ⟨r1, r2, e1, e2, rfl⟩ := cellsEq_append he
    rw [List.drop_drop, List.drop_drop] at e2
    have part : ∀ (as : List AV) (us : List Value), VRels X w as us → ((as.drop acc).take k1.length).length = k1.length → (part f.type us.toArray f.offset).run P w = .ok (whole P f.type ((us.drop acc).take k1.length)) w := by
      intro as us hr hl
      have hul := hr.1
      rw [ho]
      unfold Go.part
      rw [Sem.run_bind, isAgg_run hu, Result.andThen_ok]
      rcases hd with ⟨q, rfl⟩ | ⟨d1, d2, d3⟩
      · simp only [aggD, if_true]
        rw [Sem.run_bind, cellsOf_run hu, Result.andThen_ok, Sem.run_pure]
        simp only [whole, hu]
        congr 2
        apply Array.ext'
        simp [List.extract_eq_take_drop, hc]
      · have hag : aggD d = false := by
          cases d <;> first | rfl | exact absurd rfl (d1 _) | exact absurd rfl (d2 _ _)
        have hlt : acc < us.length := by simp at hl; omega
        have hg : us.toArray[acc]? = some us[acc] := by simp [hlt]
        rw [if_neg (by rw [hag]; simp), hg]
        have hw : whole P f.type ((us.drop acc).take k1.length) = us[acc] := by
          have : whole P f.type ((us.drop acc).take k1.length) = ((us.drop acc).take k1.length).getD 0 undef := by
            unfold whole
            rw [hu]
            cases d <;> first | rfl | exact absurd rfl (d1 _)
          rw [this, List.getD_eq_getElem?_getD, List.getElem?_take, if_pos (by omega), List.getElem?_drop, Nat.add_zero, List.getElem?_eq_getElem hlt]
          rfl
        rw [hw]
        rfl
    obtain ⟨l1, l2⟩ := cellsEq_len e1
    have hh := hrun _ _ _ _ r1 ((ha.drop acc).take k1.length) ((hb.drop acc).take k1.length) e1
    simp only [Op.eqFields, hn, ne_eq, not_false_eq_true, if_true, Sem.run_bind, part as us ha l1, part bs vs hb l2, Result.andThen_ok, hh]
    cases r1
    · simp
    · simp only [Bool.not_true, Bool.false_eq_true, if_false, Bool.true_and]
      exact flatFs_run hf fs (acc + k1.length) k2 h2 as bs us vs r2 ha hb e2

theorem flatTy_run {P : Program} {X : Ctx} {w : World} : ∀ (d D : Nat) (t : TypeId) (ks : List Nat), flatTy P d t = some ks → d ≤ D → P.cellsOf t = ks.length ∧
      (∃ q, P.underlying t = some q ∧ ((∃ fs, q = .struct fs) ∨ ((∀ fs, q ≠ .struct fs) ∧ (∀ n e, q ≠ .array n e) ∧ ks.length = 1))) ∧
      ∀ as bs us vs r, VRels X w as us → VRels X w bs vs → cellsEq ks as bs = some r → (Op.equalIn D t (whole P t us) (whole P t vs)).run P w = .ok r w
  | 0, _, _, _, h, _ => by simp [flatTy] at h
  | d + 1, 0, _, _, _, h => by omega
  | d + 1, D + 1, t, ks, h, hD => by
    have one : ∀ q k, P.underlying t = some q → ks = [k] → P.cellsOf t = 1 → (∀ fs, q ≠ .struct fs) → (∀ n e, q ≠ .array n e) → ((∃ q', q = .int q') ∧ k = 0 ∨ q = .bool ∧ k = 1 ∨ q = .string ∧ k = 2) →
        P.cellsOf t = ks.length ∧ (∃ q, P.underlying t = some q ∧ ((∃ fs, q = .struct fs) ∨ ((∀ fs, q ≠ .struct fs) ∧ (∀ n e, q ≠ .array n e) ∧ ks.length = 1))) ∧
        ∀ as bs us vs r, VRels X w as us → VRels X w bs vs → cellsEq ks as bs = some r → (Op.equalIn (D + 1) t (whole P t us) (whole P t vs)).run P w = .ok r w := by
      rintro q k hu rfl hc n1 n2 hk
      refine ⟨by simpa using hc, ⟨q, hu, .inr ⟨n1, n2, rfl⟩⟩, fun as bs us vs r ha hb he => ?_⟩
      have hw : ∀ us : List Value, whole P t us = us.getD 0 undef := by
        intro us; unfold whole; rw [hu]; cases q <;> first | rfl | exact absurd rfl (n1 _)
      obtain ⟨l1, l2⟩ := cellsEq_len he
      cases as with
      | nil => simp at l1
      | cons a as => cases as with
        | cons _ _ => simp at l1
        | nil => cases bs with
          | nil => simp at l2
          | cons b bs => cases bs with
            | cons _ _ => simp at l2
            | nil =>
              simp only [cellsEq, Option.bind_eq_some_iff, Option.some.injEq] at he
              obtain ⟨x, h1, y, rfl, rfl⟩ := he
              have ul := ha.1
              have vl := hb.1
              simp at ul vl
              rw [hw, hw, Bool.and_true]
              obtain ⟨u, hu0⟩ : ∃ u, us[0]? = some u := ⟨us[0]'(by omega), by simp⟩
              obtain ⟨v, hv0⟩ : ∃ v, vs[0]? = some v := ⟨vs[0]'(by omega), by simp⟩
              rw [List.getD_eq_getElem?_getD, List.getD_eq_getElem?_getD, hu0, hv0]
              exact cell_run hu hk (ha.2 0 a u (by simp) hu0) (hb.2 0 b v (by simp) hv0) h1 D
    unfold flatTy at h
    split at h
    · rename_i q hu
      split at h
      · rename_i hc; cases h; exact one _ 0 hu rfl hc (by simp) (by simp) (.inl ⟨⟨q, rfl⟩, rfl⟩)
      · cases h
    · rename_i hu
      split at h
      · rename_i hc; cases h; exact one _ 1 hu rfl hc (by simp) (by simp) (.inr (.inl ⟨rfl, rfl⟩))
      · cases h
    · rename_i hu
      split at h
      · rename_i hc; cases h; exact one _ 2 hu rfl hc (by simp) (by simp) (.inr (.inr ⟨rfl, rfl⟩))
      · cases h
    · rename_i fs hu
      split at h
      case isFalse => cases h
      rename_i hst
      simp only [Option.bind_eq_some_iff] at h
      obtain ⟨ks', h1, h2⟩ := h
      split at h2
      case isFalse => cases h2
      rename_i hc
      cases h2
      refine ⟨hc, ⟨_, hu, .inl ⟨fs, rfl⟩⟩, fun as bs us vs r ha hb he => ?_⟩
      have hfo : P.fieldsOf t = fs := by simp [Program.fieldsOf, hu]
      have hw : ∀ us : List Value, whole P t us = .agg us.toArray := by intro us; unfold whole; rw [hu]
      rw [hw, hw, run_equalIn_struct w D t _ _ (by rw [hfo]; exact hu) hst, hfo]
      exact flatFs_run (fun t ks h => flatTy_run d D t ks h (by omega)) fs.toList 0 ks h1 as bs us vs r ha hb (by simpa using he)
    · cases h

end Go.Ab
