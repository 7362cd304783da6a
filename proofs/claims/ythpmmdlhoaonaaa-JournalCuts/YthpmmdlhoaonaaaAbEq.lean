/-
  Equality by the kind of a type, and maps: under the relation.
  Conditions: none.
-/
import Derived.Test.YthpmmdlhoaonaaaAbOps3
import Derived.Laws.StructEq
import Derived.ChangeKeysEq
namespace Go.Ab

def flatFs (flat : TypeId → Option (List Nat)) : List Field → Nat → Option (List Nat)
  | [], _ => some []
  | f :: fs, acc => if f.name ≠ "_" ∧ f.offset = acc then (flat f.type).bind fun ks => (flatFs flat fs (acc + ks.length)).bind fun ks' => some (ks ++ ks') else none

/-- Types whose values are plain cells that '==' compares one by one: the cells' kinds. -/
def flatTy (P : Program) : Nat → TypeId → Option (List Nat)
  | 0, _ => none
  | d + 1, t => match P.underlying t with
    | some (.int _) => if P.cellsOf t = 1 then some [0] else none
    | some .bool => if P.cellsOf t = 1 then some [1] else none
    | some .string => if P.cellsOf t = 1 then some [2] else none
    | some (.struct fs) => if P.stoodInHeld t = false then (flatFs (flatTy P d) fs.toList 0).bind fun ks => if P.cellsOf t = ks.length then some ks else none else none
    | some (.array n e) => (flatTy P d e).bind fun ke => if P.cellsOf t = (List.replicate n ke).flatten.length then some (List.replicate n ke).flatten else none
    | _ => none

theorem cellsEq_append {k1 k2 : List Nat} {l m : List AV} {r : Bool} (h : cellsEq (k1 ++ k2) l m = some r) :
    ∃ r1 r2, cellsEq k1 (l.take k1.length) (m.take k1.length) = some r1 ∧ cellsEq k2 (l.drop k1.length) (m.drop k1.length) = some r2 ∧ r = (r1 && r2) := by
  induction k1 generalizing l m r with
  | nil => exact ⟨true, r, by simp [cellsEq], by simpa using h, by simp⟩
  | cons k k1 ih =>
    cases l <;> cases m <;> simp only [List.cons_append, cellsEq, Option.bind_eq_some_iff, Option.some.injEq, reduceCtorEq] at h
    rename_i a l b m
    obtain ⟨x, h1, y, h2, rfl⟩ := h
    obtain ⟨r1, r2, q1, q2, rfl⟩ := ih h2
    exact ⟨x && r1, r2, by simp [cellsEq, h1, q1], by simpa using q2, by simp [Bool.and_assoc]⟩

theorem cellsEq_len {ks : List Nat} {l m : List AV} {r : Bool} (h : cellsEq ks l m = some r) : l.length = ks.length ∧ m.length = ks.length := by
  induction ks generalizing l m r with
  | nil => cases l <;> cases m <;> simp_all [cellsEq]
  | cons k ks ih =>
    cases l <;> cases m <;> simp only [cellsEq, Option.bind_eq_some_iff, Option.some.injEq, reduceCtorEq] at h
    obtain ⟨x, h1, y, h2, rfl⟩ := h
    obtain ⟨a, b⟩ := ih h2
    simp [a, b]

def aggD : TypeDesc → Bool
  | .struct _ | .array _ _ => true
  | _ => false

theorem isAgg_run {P : Program} {t : TypeId} {d : TypeDesc} (h : P.underlying t = some d) (w : World) : (isAgg t).run P w = .ok (aggD d) w := by
  unfold isAgg
  rw [Sem.run_bind, run_underlying h, Result.andThen_ok]
  cases d <;> rfl

theorem info_of_underlying {P : Program} {t : TypeId} {d : TypeDesc} (h : P.underlying t = some d) : (P.info? t).isSome = true := by
  unfold Program.underlying at h
  split at h
  · rename_i e; simp [e]
  · rename_i e; simp [e]
  · cases h

theorem cellsOf_run {P : Program} {t : TypeId} {d : TypeDesc} (hu : P.underlying t = some d) (w : World) : (sizeOf t).run P w = .ok (P.cellsOf t) w := by
  obtain ⟨i, hi⟩ := Option.isSome_iff_exists.1 (info_of_underlying hu)
  simp [sizeOf, typeInfo, hi, Program.cellsOf]

theorem beq_data (a b : ByteArray) : (a == b) = decide (a.data.toList = b.data.toList) := by
  rw [beq_toListBytes, ByteArray.toList_eq, ByteArray.toList_eq, Bool.eq_iff_iff]
  simp

/-- One cell of a plain type. -/
theorem cell_run {P : Program} {X : Ctx} {w : World} {t : TypeId} {d : TypeDesc} (hu : P.underlying t = some d) {k : Nat} (hk : (∃ q, d = .int q) ∧ k = 0 ∨ d = .bool ∧ k = 1 ∨ d = .string ∧ k = 2)
    {a b : AV} {u v : Value} (ha : VRel X w a u) (hb : VRel X w b v) {r : Bool} (h : cellEq k a b = some r) (D : Nat) : (Op.equalIn (D + 1) t u v).run P w = .ok r w := by
  rcases hk with ⟨⟨q, rfl⟩, rfl⟩ | ⟨rfl, rfl⟩ | ⟨rfl, rfl⟩
  · cases a <;> simp only [cellEq, reduceCtorEq] at h
    cases b <;> simp only [reduceCtorEq] at h
    split at h
    · rename_i e; subst e; cases h; cases ha; cases hb
      rw [run_equalIn_int w D t _ q _ _ hu]
      congr 1
    · cases h
  · cases a <;> simp only [cellEq, reduceCtorEq] at h
    cases b <;> simp only [reduceCtorEq, Option.some.injEq] at h
    subst h; cases ha; cases hb
    exact run_equalIn_bool' w D t _ _ hu
  · cases a <;> simp only [cellEq, reduceCtorEq] at h
    cases b <;> simp only [reduceCtorEq, Option.some.injEq] at h
    subst h; cases ha; cases hb
    rename_i x hx y hy
    subst hx hy
    rw [run_equalIn_string w D t _ _ hu]
    congr 1
    rw [ByteArray.toList_eq, ByteArray.toList_eq, Bool.eq_iff_iff]; simp

/-- A value of a type, out of its cells. -/
def whole (P : Program) (t : TypeId) (us : List Value) : Value :=
  match P.underlying t with
  | some d => if aggD d = true then .agg us.toArray else us.getD 0 undef
  | _ => us.getD 0 undef

theorem part_run {P : Program} {w : World} {t : TypeId} {d : TypeDesc} {n : Nat} (hu : P.underlying t = some d) (hc : P.cellsOf t = n) (hd : aggD d = true ∨ (aggD d = false ∧ n = 1)) {us : List Value} {acc : Nat}
    (hl : aggD d = false → acc < us.length) : (part t us.toArray acc).run P w = .ok (whole P t ((us.drop acc).take n)) w := by
  unfold Go.part
  rw [Sem.run_bind, isAgg_run hu, Result.andThen_ok]
  rcases hd with hd | ⟨hd, h1⟩
  · simp only [hd, if_true]
    rw [Sem.run_bind, cellsOf_run hu, Result.andThen_ok, Sem.run_pure]
    simp only [whole, hu, hd, if_true]
    congr 2
    apply Array.ext'
    simp [List.extract_eq_take_drop, hc]
  · have hlt : acc < us.length := hl hd
    have hg : us.toArray[acc]? = some us[acc] := by simp [hlt]
    rw [if_neg (by rw [hd]; simp), hg]
    have hw : whole P t ((us.drop acc).take n) = us[acc] := by
      simp only [whole, hu, hd]
      rw [if_neg (by simp), List.getD_eq_getElem?_getD, List.getElem?_take, if_pos (by omega), List.getElem?_drop, Nat.add_zero, List.getElem?_eq_getElem hlt]
      rfl
    rw [hw]
    rfl

/-- What is known of a type that is compared cell by cell. -/
def FlatOk (P : Program) (X : Ctx) (w : World) (D : Nat) (t : TypeId) (ks : List Nat) : Prop :=
  P.cellsOf t = ks.length ∧ (∃ d, P.underlying t = some d ∧ (aggD d = true ∨ (aggD d = false ∧ ks.length = 1))) ∧
    ∀ as bs us vs r, VRels X w as us → VRels X w bs vs → cellsEq ks as bs = some r → (Op.equalIn D t (whole P t us) (whole P t vs)).run P w = .ok r w

/-- The parts of two values at one place, compared. -/
theorem FlatOk.parts {P : Program} {X : Ctx} {w : World} {D : Nat} {t : TypeId} {ks : List Nat} (h : FlatOk P X w D t ks) {as bs : List AV} {us vs : List Value} (ha : VRels X w as us) (hb : VRels X w bs vs) {acc : Nat} {r : Bool}
    (he : cellsEq ks ((as.drop acc).take ks.length) ((bs.drop acc).take ks.length) = some r) :
    ∃ x y, (part t us.toArray acc).run P w = .ok x w ∧ (part t vs.toArray acc).run P w = .ok y w ∧ (Op.equalIn D t x y).run P w = .ok r w := by
  obtain ⟨hc, ⟨d, hu, hd⟩, hrun⟩ := h
  obtain ⟨l1, l2⟩ := cellsEq_len he
  have la := ha.1
  have lb := hb.1
  simp only [List.length_take, List.length_drop] at l1 l2
  have hs : aggD d = false → ks.length = 1 := fun e => by rcases hd with h | h; rw [e] at h; cases h; exact h.2
  exact ⟨_, _, part_run (w := w) hu hc hd (fun e => by have := hs e; omega), part_run (w := w) hu hc hd (fun e => by have := hs e; omega), hrun _ _ _ _ r ((ha.drop acc).take ks.length) ((hb.drop acc).take ks.length) he⟩

theorem flatFs_run {P : Program} {X : Ctx} {w : World} {D : Nat} {flat : TypeId → Option (List Nat)} (hf : ∀ t ks, flat t = some ks → FlatOk P X w D t ks) :
    ∀ (fs : List Field) (acc : Nat) (ks : List Nat), flatFs flat fs acc = some ks → ∀ (as bs : List AV) (us vs : List Value) (r : Bool), VRels X w as us → VRels X w bs vs → cellsEq ks (as.drop acc) (bs.drop acc) = some r →
      (Op.eqFields D us.toArray vs.toArray fs).run P w = .ok r w
  | [], acc, ks, h, as, bs, us, vs, r, _, _, he => by
    simp only [flatFs, Option.some.injEq] at h
    subst h
    cases h1 : as.drop acc <;> cases h2 : bs.drop acc <;> rw [h1, h2] at he <;> simp [cellsEq] at he
    subst he
    simp [Op.eqFields]
  | f :: fs, acc, ks, h, as, bs, us, vs, r, ha, hb, he => by
    simp only [flatFs] at h
    split at h
    case isFalse => cases h
    rename_i hn
    obtain ⟨hn, ho⟩ := hn
    simp only [Option.bind_eq_some_iff, Option.some.injEq] at h
    obtain ⟨k1, h1, k2, h2, rfl⟩ := h
    obtain ⟨r1, r2, e1, e2, rfl⟩ := cellsEq_append he
    rw [List.drop_drop, List.drop_drop] at e2
    obtain ⟨x, y, p1, p2, hh⟩ := (hf f.type k1 h1).parts ha hb e1
    simp only [Op.eqFields, hn, ne_eq, not_false_eq_true, if_true, Sem.run_bind, ho, p1, p2, Result.andThen_ok, hh]
    cases r1
    · simp
    · simp only [Bool.not_true, Bool.false_eq_true, if_false, Bool.true_and]
      exact flatFs_run hf fs (acc + k1.length) k2 h2 as bs us vs r2 ha hb e2

theorem flatItems_run {P : Program} {X : Ctx} {w : World} {D : Nat} {e : TypeId} {ke : List Nat} (hf : FlatOk P X w D e ke) {as bs : List AV} {us vs : List Value} (ha : VRels X w as us) (hb : VRels X w bs vs) :
    ∀ (m s : Nat) (r : Bool), cellsEq (List.replicate m ke).flatten (as.drop (s * ke.length)) (bs.drop (s * ke.length)) = some r → (Op.eqItems D e (P.cellsOf e) us.toArray vs.toArray (List.range' s m)).run P w = .ok r w
  | 0, s, r, he => by
    cases h1 : as.drop (s * ke.length) <;> cases h2 : bs.drop (s * ke.length) <;> rw [h1, h2] at he <;> simp [cellsEq] at he
    subst he
    simp [Op.eqItems]
  | m + 1, s, r, he => by
    rw [List.replicate_succ, List.flatten_cons] at he
    obtain ⟨r1, r2, e1, e2, rfl⟩ := cellsEq_append he
    rw [List.drop_drop, List.drop_drop, ← Nat.succ_mul] at e2
    obtain ⟨x, y, p1, p2, hh⟩ := hf.parts ha hb e1
    rw [← hf.1] at p1 p2
    simp only [List.range'_succ, Op.eqItems, Sem.run_bind, p1, p2, Result.andThen_ok, hh]
    cases r1
    · simp
    · simp only [Bool.not_true, Bool.false_eq_true, if_false, Bool.true_and]
      exact flatItems_run hf ha hb m (s + 1) r2 e2

theorem flatTy_run {P : Program} {X : Ctx} {w : World} : ∀ (d D : Nat) (t : TypeId) (ks : List Nat), flatTy P d t = some ks → d ≤ D → FlatOk P X w D t ks
  | 0, _, _, _, h, _ => by simp [flatTy] at h
  | d + 1, 0, _, _, _, h => by omega
  | d + 1, D + 1, t, ks, h, hD => by
    have one : ∀ q k, P.underlying t = some q → ks = [k] → P.cellsOf t = 1 → aggD q = false → ((∃ q', q = .int q') ∧ k = 0 ∨ q = .bool ∧ k = 1 ∨ q = .string ∧ k = 2) → FlatOk P X w (D + 1) t ks := by
      rintro q k hu rfl hc n1 hk
      refine ⟨by simpa using hc, ⟨q, hu, .inr ⟨n1, rfl⟩⟩, fun as bs us vs r ha hb he => ?_⟩
      have hw : ∀ us : List Value, whole P t us = us.getD 0 undef := by
        intro us; simp [whole, hu, n1]
      obtain ⟨l1, l2⟩ := cellsEq_len he
      cases as with
      | nil => simp at l1
      | cons a as => cases as with
        | cons _ _ => simp at l1
        | nil => cases bs with
          | nil => simp at l2
          | cons b bs => cases bs with
            | cons _ _ => simp at l2
            | nil =>
              simp only [cellsEq, Option.bind_eq_some_iff, Option.some.injEq] at he
              obtain ⟨x, h1, y, rfl, rfl⟩ := he
              have ul := ha.1
              have vl := hb.1
              simp at ul vl
              rw [hw, hw, Bool.and_true]
              obtain ⟨u, hu0⟩ : ∃ u, us[0]? = some u := ⟨us[0]'(by omega), by simp⟩
              obtain ⟨v, hv0⟩ : ∃ v, vs[0]? = some v := ⟨vs[0]'(by omega), by simp⟩
              rw [List.getD_eq_getElem?_getD, List.getD_eq_getElem?_getD, hu0, hv0]
              exact cell_run hu hk (ha.2 0 a u (by simp) hu0) (hb.2 0 b v (by simp) hv0) h1 D
    unfold flatTy at h
    split at h
    · rename_i q hu
      split at h
      · rename_i hc; cases h; exact one _ 0 hu rfl hc rfl (.inl ⟨⟨q, rfl⟩, rfl⟩)
      · cases h
    · rename_i hu
      split at h
      · rename_i hc; cases h; exact one _ 1 hu rfl hc rfl (.inr (.inl ⟨rfl, rfl⟩))
      · cases h
    · rename_i hu
      split at h
      · rename_i hc; cases h; exact one _ 2 hu rfl hc rfl (.inr (.inr ⟨rfl, rfl⟩))
      · cases h
    · rename_i fs hu
      split at h
      case isFalse => cases h
      rename_i hst
      simp only [Option.bind_eq_some_iff] at h
      obtain ⟨ks', h1, h2⟩ := h
      split at h2
      case isFalse => cases h2
      rename_i hc
      cases h2
      refine ⟨hc, ⟨_, hu, .inl rfl⟩, fun as bs us vs r ha hb he => ?_⟩
      have hfo : P.fieldsOf t = fs := by simp [Program.fieldsOf, hu]
      have hw : ∀ us : List Value, whole P t us = .agg us.toArray := by intro us; simp [whole, hu, aggD]
      rw [hw, hw, run_equalIn_struct w D t _ _ (by rw [hfo]; exact hu) hst, hfo]
      exact flatFs_run (fun t ks h => flatTy_run d D t ks h (by omega)) fs.toList 0 ks h1 as bs us vs r ha hb (by simpa using he)
    · rename_i n e hu
      simp only [Option.bind_eq_some_iff] at h
      obtain ⟨ke, h1, h2⟩ := h
      split at h2
      case isFalse => cases h2
      rename_i hc
      cases h2
      refine ⟨hc, ⟨_, hu, .inl rfl⟩, fun as bs us vs r ha hb he => ?_⟩
      have hw : ∀ us : List Value, whole P t us = .agg us.toArray := by intro us; simp [whole, hu, aggD]
      have hfe := flatTy_run (X := X) (w := w) d D e ke h1 (by omega)
      obtain ⟨de, hue, _⟩ := hfe.2.1
      obtain ⟨i, hi⟩ := Option.isSome_iff_exists.1 (info_of_underlying hue)
      rw [hw, hw, run_equalIn_array w D _ _ hu hi, List.range_eq_range']
      exact flatItems_run hfe ha hb n 0 r (by simpa using he)
    · cases h

end Go.Ab
