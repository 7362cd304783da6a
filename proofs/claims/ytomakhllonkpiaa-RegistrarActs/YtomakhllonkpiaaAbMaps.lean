/-
  Equality by the kind of a type, and maps: under the relation.
  Conditions: none.
-/
import Derived.Test.YtomakhllonkpiaaAbOps3
import Derived.Laws.StructEq
import Derived.ChangeKeysEq
namespace Go.Ab

def flatFs (flat : TypeId → Option (List Nat)) : List Field → Nat → Option (List Nat)
  | [], _ => some []
  | f :: fs, acc => if f.name ≠ "_" ∧ f.offset = acc then (flat f.type).bind fun ks => (flatFs flat fs (acc + ks.length)).bind fun ks' => some (ks ++ ks') else none

/-- Types whose values are plain cells that '==' compares one by one: the cells' kinds. -/
def flatTy (P : Program) : Nat → TypeId → Option (List Nat)
  | 0, _ => none
  | d + 1, t => match P.underlying t with
    | some (.int _) => if P.cellsOf t = 1 then some [0] else none
    | some .bool => if P.cellsOf t = 1 then some [1] else none
    | some .string => if P.cellsOf t = 1 then some [2] else none
    | some (.struct fs) => if P.stoodInHeld t = false then (flatFs (flatTy P d) fs.toList 0).bind fun ks => if P.cellsOf t = ks.length then some ks else none else none
    | some (.array n e) => (flatTy P d e).bind fun ke => if P.cellsOf t = (List.replicate n ke).flatten.length then some (List.replicate n ke).flatten else none
    | _ => none

theorem cellsEq_append {k1 k2 : List Nat} {l m : List AV} {r : Bool} (h : cellsEq (k1 ++ k2) l m = some r) :
    ∃ r1 r2, cellsEq k1 (l.take k1.length) (m.take k1.length) = some r1 ∧ cellsEq k2 (l.drop k1.length) (m.drop k1.length) = some r2 ∧ r = (r1 && r2) := by
  induction k1 generalizing l m r with
  | nil => exact ⟨true, r, by simp [cellsEq], by simpa using h, by simp⟩
  | cons k k1 ih =>
    cases l <;> cases m <;> simp only [List.cons_append, cellsEq, Option.bind_eq_some_iff, Option.some.injEq, reduceCtorEq] at h
    rename_i a l b m
    obtain ⟨x, h1, y, h2, rfl⟩ := h
    obtain ⟨r1, r2, q1, q2, rfl⟩ := ih h2
    exact ⟨x && r1, r2, by simp [cellsEq, h1, q1], by simpa using q2, by simp [Bool.and_assoc]⟩

theorem cellsEq_len {ks : List Nat} {l m : List AV} {r : Bool} (h : cellsEq ks l m = some r) : l.length = ks.length ∧ m.length = ks.length := by
  induction ks generalizing l m r with
  | nil => cases l <;> cases m <;> simp_all [cellsEq]
  | cons k ks ih =>
    cases l <;> cases m <;> simp only [cellsEq, Option.bind_eq_some_iff, Option.some.injEq, reduceCtorEq] at h
    obtain ⟨x, h1, y, h2, rfl⟩ := h
    obtain ⟨a, b⟩ := ih h2
    simp [a, b]

def aggD : TypeDesc → Bool
  | .struct _ | .array _ _ => true
  | _ => false

theorem isAgg_run {P : Program} {t : TypeId} {d : TypeDesc} (h : P.underlying t = some d) (w : World) : (isAgg t).run P w = .ok (aggD d) w := by
  unfold isAgg
  rw [Sem.run_bind, run_underlying h, Result.andThen_ok]
  cases d <;> rfl

theorem info_of_underlying {P : Program} {t : TypeId} {d : TypeDesc} (h : P.underlying t = some d) : (P.info? t).isSome = true := by
  unfold Program.underlying at h
  split at h
  · rename_i e; simp [e]
  · rename_i e; simp [e]
  · cases h

theorem cellsOf_run {P : Program} {t : TypeId} {d : TypeDesc} (hu : P.underlying t = some d) (w : World) : (sizeOf t).run P w = .ok (P.cellsOf t) w := by
  obtain ⟨i, hi⟩ := Option.isSome_iff_exists.1 (info_of_underlying hu)
  simp [sizeOf, typeInfo, hi, Program.cellsOf]

theorem beq_data (a b : ByteArray) : (a == b) = decide (a.data.toList = b.data.toList) := by
  rw [beq_toListBytes, ByteArray.toList_eq, ByteArray.toList_eq, Bool.eq_iff_iff]
  simp

/-- One cell of a plain type. -/
theorem cell_run {P : Program} {X : Ctx} {w : World} {t : TypeId} {d : TypeDesc} (hu : P.underlying t = some d) {k : Nat} (hk : (∃ q, d = .int q) ∧ k = 0 ∨ d = .bool ∧ k = 1 ∨ d = .string ∧ k = 2)
    {a b : AV} {u v : Value} (ha : VRel X w a u) (hb : VRel X w b v) {r : Bool} (h : cellEq k a b = some r) (D : Nat) : (Op.equalIn (D + 1) t u v).run P w = .ok r w := by
  rcases hk with ⟨⟨q, rfl⟩, rfl⟩ | ⟨rfl, rfl⟩ | ⟨rfl, rfl⟩
  · cases a <;> simp only [cellEq, reduceCtorEq] at h
    cases b <;> simp only [reduceCtorEq] at h
    split at h
    · rename_i e; subst e; cases h; cases ha; cases hb
      rw [run_equalIn_int w D t _ q _ _ hu]
      congr 1
    · cases h
  · cases a <;> simp only [cellEq, reduceCtorEq] at h
    cases b <;> simp only [reduceCtorEq, Option.some.injEq] at h
    subst h; cases ha; cases hb
    exact run_equalIn_bool' w D t _ _ hu
  · cases a <;> simp only [cellEq, reduceCtorEq] at h
    cases b <;> simp only [reduceCtorEq, Option.some.injEq] at h
    subst h; cases ha; cases hb
    rename_i x hx y hy
    subst hx hy
    rw [run_equalIn_string w D t _ _ hu]
    congr 1
    rw [ByteArray.toList_eq, ByteArray.toList_eq, Bool.eq_iff_iff]; simp

/-- A value of a type, out of its cells. -/
def whole (P : Program) (t : TypeId) (us : List Value) : Value :=
  match P.underlying t with
  | some d => if aggD d = true then .agg us.toArray else us.getD 0 undef
  | _ => us.getD 0 undef

theorem part_run {P : Program} {w : World} {t : TypeId} {d : TypeDesc} {n : Nat} (hu : P.underlying t = some d) (hc : P.cellsOf t = n) (hd : aggD d = true ∨ (aggD d = false ∧ n = 1)) {us : List Value} {acc : Nat}
    (hl : aggD d = false → acc < us.length) : (part t us.toArray acc).run P w = .ok (whole P t ((us.drop acc).take n)) w := by
  unfold Go.part
  rw [Sem.run_bind, isAgg_run hu, Result.andThen_ok]
  rcases hd with hd | ⟨hd, h1⟩
  · simp only [hd, if_true]
    rw [Sem.run_bind, cellsOf_run hu, Result.andThen_ok, Sem.run_pure]
    simp only [whole, hu, hd, if_true]
    congr 2
    apply Array.ext'
    simp [List.extract_eq_take_drop, hc]
  · have hlt : acc < us.length := hl hd
    have hg : us.toArray[acc]? = some us[acc] := by simp [hlt]
    rw [if_neg (by rw [hd]; simp), hg]
    have hw : whole P t ((us.drop acc).take n) = us[acc] := by
      simp only [whole, hu, hd]
      rw [if_neg (by simp), List.getD_eq_getElem?_getD, List.getElem?_take, if_pos (by omega), List.getElem?_drop, Nat.add_zero, List.getElem?_eq_getElem hlt]
      rfl
    rw [hw]
    rfl

/-- What is known of a type that is compared cell by cell. -/
def FlatOk (P : Program) (X : Ctx) (w : World) (D : Nat) (t : TypeId) (ks : List Nat) : Prop :=
  P.cellsOf t = ks.length ∧ (∃ d, P.underlying t = some d ∧ (aggD d = true ∨ (aggD d = false ∧ ks.length = 1))) ∧
    ∀ as bs us vs r, VRels X w as us → VRels X w bs vs → cellsEq ks as bs = some r → (Op.equalIn D t (whole P t us) (whole P t vs)).run P w = .ok r w

/-- The parts of two values at one place, compared. -/
theorem FlatOk.parts {P : Program} {X : Ctx} {w : World} {D : Nat} {t : TypeId} {ks : List Nat} (h : FlatOk P X w D t ks) {as bs : List AV} {us vs : List Value} (ha : VRels X w as us) (hb : VRels X w bs vs) {acc : Nat} {r : Bool}
    (he : cellsEq ks ((as.drop acc).take ks.length) ((bs.drop acc).take ks.length) = some r) :
    ∃ x y, (part t us.toArray acc).run P w = .ok x w ∧ (part t vs.toArray acc).run P w = .ok y w ∧ (Op.equalIn D t x y).run P w = .ok r w := by
  obtain ⟨hc, ⟨d, hu, hd⟩, hrun⟩ := h
  obtain ⟨l1, l2⟩ := cellsEq_len he
  have la := ha.1
  have lb := hb.1
  simp only [List.length_take, List.length_drop] at l1 l2
  have hs : aggD d = false → ks.length = 1 := fun e => by rcases hd with h | h; rw [e] at h; cases h; exact h.2
  exact ⟨_, _, part_run (w := w) hu hc hd (fun e => by have := hs e; omega), part_run (w := w) hu hc hd (fun e => by have := hs e; omega), hrun _ _ _ _ r ((ha.drop acc).take ks.length) ((hb.drop acc).take ks.length) he⟩

theorem flatFs_run {P : Program} {X : Ctx} {w : World} {D : Nat} {flat : TypeId → Option (List Nat)} (hf : ∀ t ks, flat t = some ks → FlatOk P X w D t ks) :
    ∀ (fs : List Field) (acc : Nat) (ks : List Nat), flatFs flat fs acc = some ks → ∀ (as bs : List AV) (us vs : List Value) (r : Bool), VRels X w as us → VRels X w bs vs → cellsEq ks (as.drop acc) (bs.drop acc) = some r →
      (Op.eqFields D us.toArray vs.toArray fs).run P w = .ok r w
  | [], acc, ks, h, as, bs, us, vs, r, _, _, he => by
    simp only [flatFs, Option.some.injEq] at h
    subst h
    cases h1 : as.drop acc <;> cases h2 : bs.drop acc <;> rw [h1, h2] at he <;> simp [cellsEq] at he
    subst he
    simp [Op.eqFields]
  | f :: fs, acc, ks, h, as, bs, us, vs, r, ha, hb, he => by
    simp only [flatFs] at h
    split at h
    case isFalse => cases h
    rename_i hn
    obtain ⟨hn, ho⟩ := hn
    simp only [Option.bind_eq_some_iff, Option.some.injEq] at h
    obtain ⟨k1, h1, k2, h2, rfl⟩ := h
    obtain ⟨r1, r2, e1, e2, rfl⟩ := cellsEq_append he
    rw [List.drop_drop, List.drop_drop] at e2
    obtain ⟨x, y, p1, p2, hh⟩ := (hf f.type k1 h1).parts ha hb e1
    simp only [Op.eqFields, hn, ne_eq, not_false_eq_true, if_true, Sem.run_bind, ho, p1, p2, Result.andThen_ok, hh]
    cases r1
    · simp
    · simp only [Bool.not_true, Bool.false_eq_true, if_false, Bool.true_and]
      exact flatFs_run hf fs (acc + k1.length) k2 h2 as bs us vs r2 ha hb e2

theorem flatItems_run {P : Program} {X : Ctx} {w : World} {D : Nat} {e : TypeId} {ke : List Nat} (hf : FlatOk P X w D e ke) {as bs : List AV} {us vs : List Value} (ha : VRels X w as us) (hb : VRels X w bs vs) :
    ∀ (m s : Nat) (r : Bool), cellsEq (List.replicate m ke).flatten (as.drop (s * ke.length)) (bs.drop (s * ke.length)) = some r → (Op.eqItems D e (P.cellsOf e) us.toArray vs.toArray (List.range' s m)).run P w = .ok r w
  | 0, s, r, he => by
    cases h1 : as.drop (s * ke.length) <;> cases h2 : bs.drop (s * ke.length) <;> rw [h1, h2] at he <;> simp [cellsEq] at he
    subst he
    simp [Op.eqItems]
  | m + 1, s, r, he => by
    rw [List.replicate_succ, List.flatten_cons] at he
    obtain ⟨r1, r2, e1, e2, rfl⟩ := cellsEq_append he
    rw [List.drop_drop, List.drop_drop, ← Nat.succ_mul] at e2
    obtain ⟨x, y, p1, p2, hh⟩ := hf.parts ha hb e1
    rw [← hf.1] at p1 p2
    simp only [List.range'_succ, Op.eqItems, Sem.run_bind, p1, p2, Result.andThen_ok, hh]
    cases r1
    · simp
    · simp only [Bool.not_true, Bool.false_eq_true, if_false, Bool.true_and]
      exact flatItems_run hf ha hb m (s + 1) r2 e2

theorem flatTy_run {P : Program} {X : Ctx} {w : World} : ∀ (d D : Nat) (t : TypeId) (ks : List Nat), flatTy P d t = some ks → d ≤ D → FlatOk P X w D t ks
  | 0, _, _, _, h, _ => by simp [flatTy] at h
  | d + 1, 0, _, _, _, h => by omega
  | d + 1, D + 1, t, ks, h, hD => by
    have one : ∀ q k, P.underlying t = some q → ks = [k] → P.cellsOf t = 1 → aggD q = false → ((∃ q', q = .int q') ∧ k = 0 ∨ q = .bool ∧ k = 1 ∨ q = .string ∧ k = 2) → FlatOk P X w (D + 1) t ks := by
      rintro q k hu rfl hc n1 hk
      refine ⟨by simpa using hc, ⟨q, hu, .inr ⟨n1, rfl⟩⟩, fun as bs us vs r ha hb he => ?_⟩
      have hw : ∀ us : List Value, whole P t us = us.getD 0 undef := by
        intro us; simp [whole, hu, n1]
      obtain ⟨l1, l2⟩ := cellsEq_len he
      cases as with
      | nil => simp at l1
      | cons a as => cases as with
        | cons _ _ => simp at l1
        | nil => cases bs with
          | nil => simp at l2
          | cons b bs => cases bs with
            | cons _ _ => simp at l2
            | nil =>
              simp only [cellsEq, Option.bind_eq_some_iff, Option.some.injEq] at he
              obtain ⟨x, h1, y, rfl, rfl⟩ := he
              have ul := ha.1
              have vl := hb.1
              simp at ul vl
              rw [hw, hw, Bool.and_true]
              obtain ⟨u, hu0⟩ : ∃ u, us[0]? = some u := ⟨us[0]'(by omega), by simp⟩
              obtain ⟨v, hv0⟩ : ∃ v, vs[0]? = some v := ⟨vs[0]'(by omega), by simp⟩
              rw [List.getD_eq_getElem?_getD, List.getD_eq_getElem?_getD, hu0, hv0]
              exact cell_run hu hk (ha.2 0 a u (by simp) hu0) (hb.2 0 b v (by simp) hv0) h1 D
    unfold flatTy at h
    split at h
    · rename_i q hu
      split at h
      · rename_i hc; cases h; exact one _ 0 hu rfl hc rfl (.inl ⟨⟨q, rfl⟩, rfl⟩)
      · cases h
    · rename_i hu
      split at h
      · rename_i hc; cases h; exact one _ 1 hu rfl hc rfl (.inr (.inl ⟨rfl, rfl⟩))
      · cases h
    · rename_i hu
      split at h
      · rename_i hc; cases h; exact one _ 2 hu rfl hc rfl (.inr (.inr ⟨rfl, rfl⟩))
      · cases h
    · rename_i fs hu
      split at h
      case isFalse => cases h
      rename_i hst
      simp only [Option.bind_eq_some_iff] at h
      obtain ⟨ks', h1, h2⟩ := h
      split at h2
      case isFalse => cases h2
      rename_i hc
      cases h2
      refine ⟨hc, ⟨_, hu, .inl rfl⟩, fun as bs us vs r ha hb he => ?_⟩
      have hfo : P.fieldsOf t = fs := by simp [Program.fieldsOf, hu]
      have hw : ∀ us : List Value, whole P t us = .agg us.toArray := by intro us; simp [whole, hu, aggD]
      rw [hw, hw, run_equalIn_struct w D t _ _ (by rw [hfo]; exact hu) hst, hfo]
      exact flatFs_run (fun t ks h => flatTy_run d D t ks h (by omega)) fs.toList 0 ks h1 as bs us vs r ha hb (by simpa using he)
    · rename_i n e hu
      simp only [Option.bind_eq_some_iff] at h
      obtain ⟨ke, h1, h2⟩ := h
      split at h2
      case isFalse => cases h2
      rename_i hc
      cases h2
      refine ⟨hc, ⟨_, hu, .inl rfl⟩, fun as bs us vs r ha hb he => ?_⟩
      have hw : ∀ us : List Value, whole P t us = .agg us.toArray := by intro us; simp [whole, hu, aggD]
      have hfe := flatTy_run (X := X) (w := w) d D e ke h1 (by omega)
      obtain ⟨de, hue, _⟩ := hfe.2.1
      obtain ⟨i, hi⟩ := Option.isSome_iff_exists.1 (info_of_underlying hue)
      rw [hw, hw, run_equalIn_array w D _ _ hu hi, List.range_eq_range']
      exact flatItems_run hfe ha hb n 0 r (by simpa using he)
    · cases h

end Go.Ab

/-
  '==' by kinds, whole; maps: under the relation.
  Conditions: none.
-/
namespace Go.Ab

def tkOf (P : Program) (t : TypeId) : TK :=
  match P.underlying t with
  | some .bool => .bool
  | some (.slice _) => .slice
  | some (.pointer _) => .pointer
  | some (.map ..) => .map
  | some (.func ..) => .func
  | some (.struct _) => match flatTy P 20 t with
    | some ks => if P.eqGuardType P.depth t = false then .flat ks else .other
    | none => .other
  | some (.array ..) => match flatTy P 20 t with
    | some ks => if P.eqGuardType P.depth t = false then .flat ks else .other
    | none => .other
  | _ => .other

def TKInv (P : Program) (t : TypeId) : TK → Prop
  | .bool => P.underlying t = some .bool
  | .slice => ∃ e, P.underlying t = some (.slice e)
  | .pointer => ∃ e, P.underlying t = some (.pointer e)
  | .map => ∃ k e, P.underlying t = some (.map k e)
  | .func => ∃ a b c, P.underlying t = some (.func a b c)
  | .flat ks => (∃ d, P.underlying t = some d ∧ aggD d = true) ∧ flatTy P 20 t = some ks ∧ P.eqGuardType P.depth t = false
  | .other => True

theorem tk_inv {P : Program} {t : TypeId} {q : TK} (h : tkOf P t = q) : TKInv P t q := by
  subst h
  unfold tkOf
  split <;> rename_i hu <;> (try exact hu) <;> (try exact ⟨_, hu⟩) <;> (try exact ⟨_, _, hu⟩) <;> (try exact ⟨_, _, _, hu⟩) <;> (try trivial)
  all_goals
    split
    · rename_i ks hf
      split
      · rename_i hg; exact ⟨⟨_, hu, rfl⟩, hf, hg⟩
      · trivial
    · trivial

theorem eq_ok {P : Program} {X : Ctx} {w : World} {t : TypeId} {q : TK} (hi : TKInv P t q) {x y : AV} {vx vy : Value} (hx : VRel X w x vx) (hy : VRel X w y vy) {b : Bool} (h : eqAV q x y = some b) (D : Nat) (hD : 20 ≤ D) :
    (Op.equalIn (D + 1) t vx vy).run P w = .ok b w := by
  unfold eqAV at h
  split at h
  case h_1 => cases h; cases hx; cases hy; exact run_equalIn_bool' w _ t _ _ hi
  case h_18 =>
    rename_i ks cs ds
    obtain ⟨⟨fs, hu, hag⟩, hf, hg⟩ := hi
    cases hx; cases hy
    rename_i us hl1 hc1 vs hl2 hc2
    obtain ⟨_, _, hrun⟩ := flatTy_run (P := P) (X := X) (w := w) 20 (D + 1) t ks hf (by omega)
    have := hrun cs ds us vs b ⟨hl1, hc1⟩ ⟨hl2, hc2⟩ h
    simpa [whole, hu, hag] using this
  case h_19 => cases h
  all_goals (cases h; cases hx; cases hy)
  all_goals (simp only [TKInv] at hi)
  all_goals (first
    | (obtain ⟨e, hu⟩ := hi; simp [Op.equalIn, run_underlying hu]; done)
    | (obtain ⟨k, e, hu⟩ := hi; simp [Op.equalIn, run_underlying hu]; done)
    | (obtain ⟨a, b, c, hu⟩ := hi; simp [Op.equalIn, run_underlying hu]; done))

theorem bin_ok {P : Program} {X : Ctx} {w : World} {op : BinOp} {t : TypeId} {x y c : AV} {vx vy : Value} (ox oy : Operand) (hx : VRel X w x vx) (hy : VRel X w y vy) (h : binAV op (tkOf P t) x y = some c) :
    ∃ v, (do eqGuard op t ox oy vx vy; binOp op t vx vy : Sem Value).run P w = .ok v w ∧ VRel X w c v := by
  have main : (∃ v, (binOp op t vx vy).run P w = .ok v w ∧ VRel X w c v) → (eqGuard op t ox oy vx vy).run P w = .ok () w → ∃ v, (do eqGuard op t ox oy vx vy; binOp op t vx vy : Sem Value).run P w = .ok v w ∧ VRel X w c v := by
    rintro ⟨v, h1, h2⟩ hg
    exact ⟨v, by rw [Sem.run_bind, hg, Result.andThen_ok]; exact h1, h2⟩
  by_cases hint : ∃ k a k' b, x = .int k a ∧ y = .int k' b
  · obtain ⟨k, a, k', b, rfl, rfl⟩ := hint
    cases hx; cases hy
    refine main ?_ (by cases op <;> simp [eqGuard])
    simp only [binAV] at h
    split at h
    · simpa [binOp] using shift_ok .shl k k' a b P w h (X := X)
    · simpa [binOp] using shift_ok .shr k k' a b P w h (X := X)
    · split at h
      · rename_i n1 n2 e
        subst e
        exact int_ok op t k a b P w ⟨fun e => n1 e, fun e => n2 e⟩ h
      · cases h
  by_cases hstr : ∃ a b, x = .str a ∧ y = .str b
  · obtain ⟨a, b, rfl, rfl⟩ := hstr
    cases hx; cases hy
    rename_i s1 h1 s2 h2
    subst h1 h2
    refine main ?_ (by cases op <;> simp [eqGuard])
    simp only [binAV] at h
    exact str_ok op t s1 s2 P w h
  have hb : binAV op (tkOf P t) x y = if op = .eql then (eqAV (tkOf P t) x y).bind fun b => some (.bool b) else if op = .neq then (eqAV (tkOf P t) x y).bind fun b => some (.bool !b) else none := by
    unfold binAV
    split
    · exact absurd ⟨_, _, _, _, rfl, rfl⟩ hint
    · exact absurd ⟨_, _, rfl, rfl⟩ hstr
    · cases op <;> rfl
  rw [hb] at h
  have hi := tk_inv (P := P) (t := t) rfl
  generalize tkOf P t = q at h hi
  have guard : ∀ b, eqAV q x y = some b → (eqGuard op t ox oy vx vy).run P w = .ok () w := by
    intro b he
    unfold eqAV at he
    split at he
    case h_18 => cases hx; cases hy; exact run_eqGuard_agg w op t ox oy _ _ hi.2.2
    case h_19 => cases he
    all_goals (cases hx; cases hy; cases op <;> simp [eqGuard])
  have eqv : ∀ b, eqAV q x y = some b → (op = .eql ∨ op = .neq) → (binOp op t vx vy).run P w = .ok (.bool (if op = .eql then b else !b)) w := by
    intro b he ho
    have hrun : (Op.equal t vx vy).run P w = .ok b w := eq_ok hi hx hy he 9999 (by omega)
    unfold eqAV at he
    split at he
    case h_19 => cases he
    all_goals (cases hx; cases hy; rcases ho with rfl | rfl <;> simp [binOp, hrun])
  cases op <;> simp only [reduceCtorEq, if_true, if_false, Option.bind_eq_some_iff, Option.some.injEq] at h
  · obtain ⟨b, he, rfl⟩ := h
    exact main ⟨_, eqv b he (.inl rfl), by simp; exact .bool⟩ (guard b he)
  · obtain ⟨b, he, rfl⟩ := h
    exact main ⟨_, eqv b he (.inr rfl), by simp; exact .bool⟩ (guard b he)

end Go.Ab

/-
  Maps with plain keys: under the relation.
  Conditions: none.
-/
namespace Go.Ab

/-- The kind of a key's type. -/
def kkOf (P : Program) (t : TypeId) : Option Nat :=
  match P.underlying t with
  | some (.int _) => some 0
  | some .bool => some 1
  | some .string => some 2
  | _ => none

theorem kk_inv {P : Program} {t : TypeId} {k : Nat} (h : kkOf P t = some k) : ∃ d, P.underlying t = some d ∧ ((∃ q, d = .int q) ∧ k = 0 ∨ d = .bool ∧ k = 1 ∨ d = .string ∧ k = 2) := by
  unfold kkOf at h
  split at h <;> rename_i hu <;> cases h
  · exact ⟨_, hu, .inl ⟨⟨_, rfl⟩, rfl⟩⟩
  · exact ⟨_, hu, .inr (.inl ⟨rfl, rfl⟩)⟩
  · exact ⟨_, hu, .inr (.inr ⟨rfl, rfl⟩)⟩

theorem sameNow_ok {X : Ctx} {w : World} {d : TypeDesc} {k : Nat} (hk : (∃ q, d = .int q) ∧ k = 0 ∨ d = .bool ∧ k = 1 ∨ d = .string ∧ k = 2) {a b : AV} {u v : Value} (ha : VRel X w a u) (hb : VRel X w b v) {r : Bool} (h : cellEq k a b = some r) :
    Instr.sameNow d u v = some r := by
  rcases hk with ⟨⟨q, rfl⟩, rfl⟩ | ⟨rfl, rfl⟩ | ⟨rfl, rfl⟩
  · cases a <;> simp only [cellEq, reduceCtorEq] at h
    cases b <;> simp only [reduceCtorEq] at h
    split at h
    · rename_i e; subst e; cases h; cases ha; cases hb
      simp [Instr.sameNow]; rfl
    · cases h
  · cases a <;> simp only [cellEq, reduceCtorEq] at h
    cases b <;> simp only [reduceCtorEq, Option.some.injEq] at h
    subst h; cases ha; cases hb
    rfl
  · cases a <;> simp only [cellEq, reduceCtorEq] at h
    cases b <;> simp only [reduceCtorEq, Option.some.injEq] at h
    subst h; cases ha; cases hb
    rename_i x hx y hy
    subst hx hy
    simp only [Instr.sameNow, beq_data]

theorem findNow_ok {X : Ctx} {w : World} {d : TypeDesc} {k : Nat} (hk : (∃ q, d = .int q) ∧ k = 0 ∨ d = .bool ∧ k = 1 ∨ d = .string ∧ k = 2) {c : AV} {u : Value} (hc : VRel X w c u) :
    ∀ (es : List (AV × AV × Nat)) (ms : List MapEntry) (i : Nat) (o : Option (Nat × AV)), es.length = ms.length → (∀ (j : Nat) e m, es[j]? = some e → ms[j]? = some m → ERelE X w e m) → findAV k c es i = some o →
      match o with
      | none => Instr.findNow d u ms i = some none
      | some (j, v) => ∃ m, Instr.findNow d u ms i = some (some (j, m.val)) ∧ VRel X w v m.val ∧ i ≤ j ∧ ms[j - i]? = some m ∧ ∃ e, es[j - i]? = some e ∧ cellEq k c e.1 = some true
  | [], ms, i, o, hl, _, h => by
    have : ms = [] := List.eq_nil_of_length_eq_zero (by rw [← hl]; rfl)
    subst this
    simp only [findAV, Option.some.injEq] at h
    subst h
    rfl
  | (k', v, b) :: es, ms, i, o, hl, hr, h => by
    cases ms with
    | nil => simp at hl
    | cons m ms =>
      simp only [findAV, Option.bind_eq_some_iff] at h
      obtain ⟨r, h1, h2⟩ := h
      have h0 := hr 0 (k', v, b) m (by simp) (by simp)
      have hs := sameNow_ok hk hc h0.key h1
      cases r
      · simp only [Bool.false_eq_true, if_false] at h2
        have ih := findNow_ok hk hc es ms (i + 1) o (by simpa using hl) (fun j e m a b => hr (j + 1) e m (by simpa using a) (by simpa using b)) h2
        cases o with
        | none => simp only at ih ⊢; simp only [Instr.findNow, hs, ih]
        | some p =>
          obtain ⟨j, w'⟩ := p
          simp only at ih ⊢
          obtain ⟨m', q1, q2, q3, q4, e, q5, q6⟩ := ih
          refine ⟨m', by simp only [Instr.findNow, hs, q1], q2, by omega, ?_, e, ?_, q6⟩
          · rw [show j - i = (j - (i + 1)) + 1 by omega]; simpa using q4
          · rw [show j - i = (j - (i + 1)) + 1 by omega]; simpa using q5
      · simp only [if_true, Option.some.injEq] at h2
        subst h2
        exact ⟨m, by simp only [Instr.findNow, hs], h0.val, Nat.le_refl _, by simp, (k', v, b), by simp, h1⟩

theorem checkKey_ok {P : Program} {w : World} {t : TypeId} {d : TypeDesc} (hu : P.underlying t = some d) {k : Nat} (hk : (∃ q, d = .int q) ∧ k = 0 ∨ d = .bool ∧ k = 1 ∨ d = .string ∧ k = 2) (e : Bool) (D : Nat) (v : Value) :
    (Instr.checkKey e (D + 1) t v).run P w = .ok () w := by
  rcases hk with ⟨⟨q, rfl⟩, rfl⟩ | ⟨rfl, rfl⟩ | ⟨rfl, rfl⟩ <;> simp [Instr.checkKey, run_underlying hu]

theorem map_at {X : Ctx} {H : Heap} {w : World} (hH : HRel X H w) {r : Nat} {v : Value} (hv : VRel X w (.map r) v) {es : List (AV × AV × Nat)} {clock : Nat} (hb : H[r]? = some (.map es clock)) :
    ∃ bi ms, X.blk r = some bi ∧ bi.g = 0 ∧ v = .map (some bi.B) ∧ w.heap[bi.B]? = some (.map (List.toArray ms) clock) ∧ es.length = ms.length ∧ ∀ (i : Nat) e m, es[i]? = some e → ms[i]? = some m → ERelE X w e m := by
  cases hv with
  | map hx hg =>
    rename_i b bi
    obtain ⟨b', h1, h2⟩ := hH.blk r bi hx
    rw [hb] at h1
    cases h1
    cases h2 with
    | map k1 k2 k3 k4 =>
      have := hg k1
      subst this
      exact ⟨bi, _, hx, k1, rfl, k2, k3, k4⟩

theorem look_ok {X : Ctx} {H : Heap} {w : World} (hH : HRel X H w) {P : Program} {t kt e : TypeId} {kk : Nat} {z m k c : AV} {zv vm vk : Value} {ok : Bool} (hu : P.underlying t = some (.map kt e)) (hkk : kkOf P kt = some kk)
    (hz : (zeroValue e).run P w = .ok zv w) (hzr : VRel X w z zv) (hm : VRel X w m vm) (hk : VRel X w k vk) (he : lookAV H kk z ok m k = some c) :
    ∃ v, (Instr.lookup t vm vk ok).run P w = .ok v w ∧ VRel X w c v := by
  obtain ⟨d, hd, hkd⟩ := kk_inv hkk
  have fin : ∀ (es : List (AV × AV × Nat)) (ms : List MapEntry), es.length = ms.length → (∀ (i : Nat) e m, es[i]? = some e → ms[i]? = some m → ERelE X w e m) → ∀ o, findAV kk k es 0 = some o →
      (match o with | some (_, v) => some (if ok then AV.tup [v, .bool true] else v) | none => some (if ok then AV.tup [z, .bool false] else z)) = some c →
      ∃ v, (do
        Instr.checkKey ms.toArray.isEmpty 10000 kt vk
        let (v, ok') ← match ← Instr.findKey kt vk ms.toArray.toList with
          | some (_, v) => pure (v, true)
          | none => pure (← zeroValue e, false)
        pure (if ok then Value.tuple #[v, .bool ok'] else v) : Sem Value).run P w = .ok v w ∧ VRel X w c v := by
    intro es ms hl hr o h1 h2
    have hf := findNow_ok hkd hk es ms 0 o hl hr h1
    have hck : ∀ b, (Instr.checkKey b 10000 kt vk).run P w = .ok () w := fun b => checkKey_ok hd hkd b 9999 vk
    cases o with
    | none =>
      simp only at hf
      have hfk : (Instr.findKey kt vk ms).run P w = .ok none w := by simp [Instr.findKey, run_underlying hd, hf]
      simp only [Option.some.injEq] at h2
      subst h2
      refine ⟨if ok then .tuple #[zv, .bool false] else zv, by simp [hck, hfk, hz], ?_⟩
      cases ok
      · simpa using hzr
      · simp only [if_true]
        refine .tup (vs := [zv, .bool false]) rfl (fun i c v hc hv => ?_)
        match i with
        | 0 => simp at hc hv; subst hc; subst hv; exact hzr
        | 1 => simp at hc hv; subst hc; subst hv; exact .bool
        | i + 2 => simp at hc
    | some p =>
      obtain ⟨j, v⟩ := p
      simp only at hf
      obtain ⟨mm, q1, q2, _⟩ := hf
      have hfk : (Instr.findKey kt vk ms).run P w = .ok (some (j, mm.val)) w := by simp [Instr.findKey, run_underlying hd, q1]
      simp only [Option.some.injEq] at h2
      subst h2
      refine ⟨if ok then .tuple #[mm.val, .bool true] else mm.val, by simp [hck, hfk], ?_⟩
      cases ok
      · simpa using q2
      · simp only [if_true]
        refine .tup (vs := [mm.val, .bool true]) rfl (fun i c v hc hv => ?_)
        match i with
        | 0 => simp at hc hv; subst hc; subst hv; exact q2
        | 1 => simp at hc hv; subst hc; subst hv; exact .bool
        | i + 2 => simp at hc
  unfold lookAV at he
  simp only [Option.bind_eq_some_iff] at he
  obtain ⟨es, h0, o, h1, h2⟩ := he
  cases hm <;> simp only [reduceCtorEq, Option.some.injEq] at h0
  case nilmap =>
    subst h0
    obtain ⟨v, g1, g2⟩ := fin [] [] rfl (by simp) o h1 h2
    refine ⟨v, ?_, g2⟩
    unfold Instr.lookup
    rw [Sem.run_bind, run_underlying hu, Result.andThen_ok]
    exact g1
  case map r b bi hx hg =>
    split at h0
    case h_2 => cases h0
    rename_i es' clock hb
    cases h0
    obtain ⟨bi', ms, k1, k2, k3, k4, k5, k6⟩ := map_at hH (.map hx hg) hb
    cases k3
    have hget : (getObj bi'.B).run P w = .ok (.map ms.toArray clock) w := by simp [getObj, Sem.run, k4]
    obtain ⟨v, g1, g2⟩ := fin _ ms k5 k6 o h1 h2
    refine ⟨v, ?_, g2⟩
    unfold Instr.lookup
    rw [Sem.run_bind, run_underlying hu, Result.andThen_ok]
    simp only
    rw [Sem.run_bind, hget, Result.andThen_ok]
    exact g1

theorem same_bits {X : Ctx} {w : World} {d : TypeDesc} {k : Nat} (hk : (∃ q, d = .int q) ∧ k = 0 ∨ d = .bool ∧ k = 1 ∨ d = .string ∧ k = 2) {a b : AV} {u v : Value} (ha : VRel X w a u) (hb : VRel X w b v) (h : cellEq k a b = some true) (D : Nat) :
    Instr.sameBits D v u = true := by
  rcases hk with ⟨⟨q, rfl⟩, rfl⟩ | ⟨rfl, rfl⟩ | ⟨rfl, rfl⟩
  · cases a <;> simp only [cellEq, reduceCtorEq] at h
    cases b <;> simp only [reduceCtorEq] at h
    split at h
    · rename_i e; subst e; cases ha; cases hb
      simp only [Option.some.injEq, decide_eq_true_eq] at h
      subst h
      simp [Instr.sameBits]
    · cases h
  · cases a <;> simp only [cellEq, reduceCtorEq] at h
    cases b <;> simp only [reduceCtorEq, Option.some.injEq] at h
    cases ha; cases hb
    simp only [beq_iff_eq] at h
    subst h
    simp [Instr.sameBits]
  · cases a <;> simp only [cellEq, reduceCtorEq] at h
    cases b <;> simp only [reduceCtorEq, Option.some.injEq, decide_eq_true_eq] at h
    cases ha; cases hb
    rename_i x hx y hy
    simp only [Instr.sameBits, beq_data]
    simp [hx, hy, h]

theorem mupd_ok {X : Ctx} {H H' : Heap} {w : World} (hH : HRel X H w) {P : Program} {t kt e : TypeId} {kk : Nat} {m k c : AV} {vm vk vc : Value} (hu : P.underlying t = some (.map kt e)) (hkk : kkOf P kt = some kk)
    (hm : VRel X w m vm) (hk : VRel X w k vk) (hc : VRel X w c vc) (he : mupdAV H kk m k c = some H') :
    ∃ w' X', (Instr.mapUpdate t vm vk vc).run P w = .ok () w' ∧ HRel X' H' w' ∧ Stp X w X' w' := by
  obtain ⟨d, hd, hkd⟩ := kk_inv hkk
  cases hm <;> simp only [mupdAV, reduceCtorEq] at he
  case map r b bi hx hg =>
    split at he
    case h_2 => cases he
    rename_i es clock hb
    simp only [Option.bind_eq_some_iff] at he
    obtain ⟨o, h1, h2⟩ := he
    obtain ⟨bi', ms, k1, k2, k3, k4, k5, k6⟩ := map_at hH (.map hx hg) hb
    cases k3
    have hbb : bi' = bi := by rw [hx] at k1; exact (Option.some.inj k1).symm
    subst hbb
    have hget : (getObj bi'.B).run P w = .ok (.map ms.toArray clock) w := by simp [getObj, Sem.run, k4]
    have hset : ∀ o', (setObj bi'.B o').run P w = .ok () { w with heap := w.heap.setIfInBounds bi'.B o' } := by intro o'; simp [setObj, Sem.run, k4]
    have hlt := (Array.getElem?_eq_some_iff.1 k4).1
    have hck : (Instr.checkKey false 10000 kt vk).run P w = .ok () w := checkKey_ok hd hkd false 9999 vk
    have hf := findNow_ok hkd hk es ms 0 o k5 k6 h1
    have upd : ∀ o', Upd X w r bi' bi' { w with heap := w.heap.setIfInBounds bi'.B o' } := fun o' =>
      { was := hx, size := by simp, os := rfl, tape := rfl, output := rfl
        others := fun b _ hne => by simp [Array.getElem?_setIfInBounds_ne (Ne.symm hne)]
        later := .inl rfl, place := .inl rfl, lt := by simpa using hlt }
    cases o with
    | none =>
      simp only at hf
      simp only [Option.some.injEq] at h2
      subst h2
      have hfk : (Instr.findKey kt vk ms).run P w = .ok none w := by simp [Instr.findKey, run_underlying hd, hf]
      refine ⟨_, _, by simp [Instr.mapUpdate, run_underlying hu, hget, hck, hfk, hset]; rfl, (upd _).hrel hH ?_, (upd _).stp hH.own⟩
      refine .map (ms := ms ++ [{ key := vk, val := vc, born := clock }]) k2 (by simp [hlt]) (by simp [k5]) (fun i e m a b => ?_)
      have hst := (upd (.map (ms.toArray.push ({ key := vk, val := vc, born := clock } : MapEntry)) (clock + 1))).stp hH.own
      by_cases hi : i < es.length
      · rw [List.getElem?_append_left hi] at a
        rw [List.getElem?_append_left (by omega)] at b
        have := k6 i e m a b
        exact ⟨this.key.step hH (by simpa using hst), this.val.step hH (by simpa using hst), this.born⟩
      · rw [List.getElem?_append_right (by omega)] at a
        rw [List.getElem?_append_right (by omega), ← k5] at b
        have hi0 : i - es.length = 0 := by have := (List.getElem?_eq_some_iff.1 a).1; simp at this; omega
        rw [hi0] at a b
        simp at a b
        subst a; subst b
        exact ⟨hk.step hH (by simpa using hst), hc.step hH (by simpa using hst), rfl⟩
    | some p =>
      obtain ⟨j, v⟩ := p
      simp only at hf
      simp only [Option.some.injEq] at h2
      subst h2
      obtain ⟨mm, q1, q2, _, q4, e0, q5, q6⟩ := hf
      simp only [Nat.sub_zero] at q4 q5
      have hfk : (Instr.findKey kt vk ms).run P w = .ok (some (j, mm.val)) w := by simp [Instr.findKey, run_underlying hd, q1]
      have hsb : Instr.sameBits 10000 mm.key vk = true := same_bits hkd hk (k6 j e0 mm q5 q4).key q6 10000
      have hkeep : (Instr.keyThatStays mm.key vk).run P w = .ok vk w := by simp [Instr.keyThatStays, hsb]
      have hold : ((ms.toArray[j]?).map (·.key)).getD vk = mm.key := by simp [q4]
      refine ⟨_, _, by simp [Instr.mapUpdate, run_underlying hu, hget, hck, hfk, q4, hkeep, hset]; rfl, (upd _).hrel hH ?_, (upd _).stp hH.own⟩
      have hst := (upd (.map (ms.toArray.modify j fun e => { e with key := vk, val := vc }) clock)).stp hH.own
      refine .map (ms := ms.modify j fun e => { e with key := vk, val := vc }) k2 (by simp [hlt]) (by simp [k5]) (fun i e m a b => ?_)
      rw [List.getElem?_modify] at a b
      simp only [List.modify_toArray] at hst
      cases hei : es[i]? with
      | none => rw [hei] at a; simp at a
      | some ei => cases hmi : ms[i]? with
        | none => rw [hmi] at b; simp at b
        | some mi =>
          rw [hei] at a
          rw [hmi] at b
          have h0 := k6 i ei mi hei hmi
          simp only [Option.map_eq_map, Option.map_some, Option.some.injEq] at a b
          by_cases hij : j = i
          · rw [if_pos hij] at a b
            subst a; subst b
            exact ⟨hk.step hH (by simpa using hst), hc.step hH (by simpa using hst), h0.born⟩
          · rw [if_neg hij] at a b
            subst a; subst b
            exact ⟨h0.key.step hH (by simpa using hst), h0.val.step hH (by simpa using hst), h0.born⟩

end Go.Ab
