/-
  '==' by kinds, whole; maps: under the relation.
  Conditions: none.
-/
import Derived.Test.YthpmmdlhoaonaaaAbEq
namespace Go.Ab

def tkOf (P : Program) (t : TypeId) : TK :=
  match P.underlying t with
  | some .bool => .bool
  | some (.slice _) => .slice
  | some (.pointer _) => .pointer
  | some (.map ..) => .map
  | some (.func ..) => .func
  | some (.struct _) => match flatTy P 20 t with
    | some ks => if P.eqGuardType P.depth t = false then .flat ks else .other
    | none => .other
  | some (.array ..) => match flatTy P 20 t with
    | some ks => if P.eqGuardType P.depth t = false then .flat ks else .other
    | none => .other
  | _ => .other

def TKInv (P : Program) (t : TypeId) : TK → Prop
  | .bool => P.underlying t = some .bool
  | .slice => ∃ e, P.underlying t = some (.slice e)
  | .pointer => ∃ e, P.underlying t = some (.pointer e)
  | .map => ∃ k e, P.underlying t = some (.map k e)
  | .func => ∃ a b c, P.underlying t = some (.func a b c)
  | .flat ks => (∃ d, P.underlying t = some d ∧ aggD d = true) ∧ flatTy P 20 t = some ks ∧ P.eqGuardType P.depth t = false
  | .other => True

theorem tk_inv {P : Program} {t : TypeId} {q : TK} (h : tkOf P t = q) : TKInv P t q := by
  subst h
  unfold tkOf
  split <;> rename_i hu <;> (try exact hu) <;> (try exact ⟨_, hu⟩) <;> (try exact ⟨_, _, hu⟩) <;> (try exact ⟨_, _, _, hu⟩) <;> (try trivial)
  all_goals
    split
    · rename_i ks hf
      split
      · rename_i hg; exact ⟨⟨_, hu, rfl⟩, hf, hg⟩
      · trivial
    · trivial

theorem eq_ok {P : Program} {X : Ctx} {w : World} {t : TypeId} {q : TK} (hi : TKInv P t q) {x y : AV} {vx vy : Value} (hx : VRel X w x vx) (hy : VRel X w y vy) {b : Bool} (h : eqAV q x y = some b) (D : Nat) (hD : 20 ≤ D) :
    (Op.equalIn (D + 1) t vx vy).run P w = .ok b w := by
  unfold eqAV at h
  split at h
  case h_1 => cases h; cases hx; cases hy; exact run_equalIn_bool' w _ t _ _ hi
  case h_18 =>
    rename_i ks cs ds
    obtain ⟨⟨fs, hu, hag⟩, hf, hg⟩ := hi
    cases hx; cases hy
    rename_i us hl1 hc1 vs hl2 hc2
    obtain ⟨_, _, hrun⟩ := flatTy_run (P := P) (X := X) (w := w) 20 (D + 1) t ks hf (by omega)
    have := hrun cs ds us vs b ⟨hl1, hc1⟩ ⟨hl2, hc2⟩ h
    simpa [whole, hu, hag] using this
  case h_19 => cases h
  all_goals (cases h; cases hx; cases hy)
  all_goals (simp only [TKInv] at hi)
  all_goals (first
    | (obtain ⟨e, hu⟩ := hi; simp [Op.equalIn, run_underlying hu]; done)
    | (obtain ⟨k, e, hu⟩ := hi; simp [Op.equalIn, run_underlying hu]; done)
    | (obtain ⟨a, b, c, hu⟩ := hi; simp [Op.equalIn, run_underlying hu]; done))

theorem bin_ok {P : Program} {X : Ctx} {w : World} {op : BinOp} {t : TypeId} {x y c : AV} {vx vy : Value} (ox oy : Operand) (hx : VRel X w x vx) (hy : VRel X w y vy) (h : binAV op (tkOf P t) x y = some c) :
    ∃ v, (do eqGuard op t ox oy vx vy; binOp op t vx vy : Sem Value).run P w = .ok v w ∧ VRel X w c v := by
  have main : (∃ v, (binOp op t vx vy).run P w = .ok v w ∧ VRel X w c v) → (eqGuard op t ox oy vx vy).run P w = .ok () w → ∃ v, (do eqGuard op t ox oy vx vy; binOp op t vx vy : Sem Value).run P w = .ok v w ∧ VRel X w c v := by
    rintro ⟨v, h1, h2⟩ hg
    exact ⟨v, by rw [Sem.run_bind, hg, Result.andThen_ok]; exact h1, h2⟩
  by_cases hint : ∃ k a k' b, x = .int k a ∧ y = .int k' b
  · obtain ⟨k, a, k', b, rfl, rfl⟩ := hint
    cases hx; cases hy
    refine main ?_ (by cases op <;> simp [eqGuard])
    simp only [binAV] at h
    split at h
    · simpa [binOp] using shift_ok .shl k k' a b P w h (X := X)
    · simpa [binOp] using shift_ok .shr k k' a b P w h (X := X)
    · split at h
      · rename_i n1 n2 e
        subst e
        exact int_ok op t k a b P w ⟨fun e => n1 e, fun e => n2 e⟩ h
      · cases h
  by_cases hstr : ∃ a b, x = .str a ∧ y = .str b
  · obtain ⟨a, b, rfl, rfl⟩ := hstr
    cases hx; cases hy
    rename_i s1 h1 s2 h2
    subst h1 h2
    refine main ?_ (by cases op <;> simp [eqGuard])
    simp only [binAV] at h
    exact str_ok op t s1 s2 P w h
  have hb : binAV op (tkOf P t) x y = if op = .eql then (eqAV (tkOf P t) x y).bind fun b => some (.bool b) else if op = .neq then (eqAV (tkOf P t) x y).bind fun b => some (.bool !b) else none := by
    unfold binAV
    split
    · exact absurd ⟨_, _, _, _, rfl, rfl⟩ hint
    · exact absurd ⟨_, _, rfl, rfl⟩ hstr
    · cases op <;> rfl
  rw [hb] at h
  have hi := tk_inv (P := P) (t := t) rfl
  generalize tkOf P t = q at h hi
  have guard : ∀ b, eqAV q x y = some b → (eqGuard op t ox oy vx vy).run P w = .ok () w := by
    intro b he
    unfold eqAV at he
    split at he
    case h_18 => cases hx; cases hy; exact run_eqGuard_agg w op t ox oy _ _ hi.2.2
    case h_19 => cases he
    all_goals (cases hx; cases hy; cases op <;> simp [eqGuard])
  have eqv : ∀ b, eqAV q x y = some b → (op = .eql ∨ op = .neq) → (binOp op t vx vy).run P w = .ok (.bool (if op = .eql then b else !b)) w := by
    intro b he ho
    have hrun : (Op.equal t vx vy).run P w = .ok b w := eq_ok hi hx hy he 9999 (by omega)
    unfold eqAV at he
    split at he
    case h_19 => cases he
    all_goals (cases hx; cases hy; rcases ho with rfl | rfl <;> simp [binOp, hrun])
  cases op <;> simp only [reduceCtorEq, if_true, if_false, Option.bind_eq_some_iff, Option.some.injEq] at h
  · obtain ⟨b, he, rfl⟩ := h
    exact main ⟨_, eqv b he (.inl rfl), by simp; exact .bool⟩ (guard b he)
  · obtain ⟨b, he, rfl⟩ := h
    exact main ⟨_, eqv b he (.inr rfl), by simp; exact .bool⟩ (guard b he)

end Go.Ab
