/-
  Arithmetic, comparisons, conversions of numbers, lengths, maps: under the relation.
  Conditions: none.
-/
import Derived.Test.YtomakhllonkpiaaAbOps2
import Derived.Laws.BitsAll
import Derived.Laws.Bits64
namespace Go.Ab

theorem bits_eq (k : IntKind) : bitsOf k = k.bits := by cases k <;> rfl

theorem toU_eq (k : IntKind) (n : Int) : toU k n = (BitVec.ofInt k.bits n).toNat := by
  cases k <;> simp [toU, IntKind.bits, BitVec.toNat_ofInt]

theorem mask_eq (k : IntKind) : mask k = 2 ^ k.bits - 1 := by cases k <;> rfl

theorem not_eq (k : IntKind) (n : Int) : (~~~(BitVec.ofInt k.bits n)).toNat = toU k n ^^^ mask k := by
  rw [toU_eq, mask_eq, BitVec.toNat_not]
  rw [Nat.xor_comm]
  generalize hx : (BitVec.ofInt k.bits n).toNat = x
  have hlt : x < 2 ^ k.bits := by rw [← hx]; exact (BitVec.ofInt k.bits n).isLt
  generalize k.bits = m at hlt
  apply Nat.eq_of_testBit_eq
  intro i
  rw [Nat.testBit_xor, Nat.testBit_two_pow_sub_one, show 2 ^ m - 1 - x = 2 ^ m - (x + 1) by omega, Nat.testBit_two_pow_sub_succ hlt]
  by_cases hi : i < m
  · simp [hi]
  · have : x.testBit i = false := Nat.testBit_lt_two_pow (Nat.lt_of_lt_of_le hlt (Nat.pow_le_pow_right (by omega) (by omega)))
    simp [hi, this]

theorem bits_ok (op : BinOp) (k : IntKind) (x y : Int) (P : Program) (w : World) (h : op = .and ∨ op = .or ∨ op = .xor ∨ op = .andNot) {c : AV} (he : binI op k x y = some c) {X : Ctx} :
    ∃ v, (Op.intBits op k x y).run P w = .ok v w ∧ VRel X w c v := by
  rcases h with rfl | rfl | rfl | rfl <;> simp only [binI, Option.some.injEq] at he <;> subst he <;> rw [wrp_eq]
  · exact ⟨_, by simp [Op.intBits]; rfl, by rw [toU_eq, toU_eq, ← BitVec.toNat_and]; exact .int⟩
  · exact ⟨_, by simp [Op.intBits]; rfl, by rw [toU_eq, toU_eq, ← BitVec.toNat_or]; exact .int⟩
  · exact ⟨_, by simp [Op.intBits]; rfl, by rw [toU_eq, toU_eq, ← BitVec.toNat_xor]; exact .int⟩
  · exact ⟨.int k (k.wrap ((BitVec.ofInt k.bits x &&& ~~~BitVec.ofInt k.bits y).toNat : Nat)), by simp [Op.intBits], by rw [BitVec.toNat_and, not_eq, ← toU_eq]; exact .int⟩

theorem shift_ok (op : BinOp) (k yk : IntKind) (x y : Int) (P : Program) (w : World) {c : AV} (he : shI op k x y = some c) {X : Ctx} :
    ∃ v, (Op.shift op k x yk y).run P w = .ok v w ∧ VRel X w c v := by
  unfold shI req at he
  split at he
  case isFalse => cases he
  rename_i h0
  have h0' : ¬ y < 0 := by omega
  have e : (((2 ^ (min y.toNat (bitsOf k)) : Nat) : Int)) = (2 : Int) ^ (min y.toNat k.bits) := by rw [bits_eq]; simp
  split at he
  · cases he
    exact ⟨_, by simp [Op.shift, h0']; rfl, by rw [wrp_eq, e]; exact .int⟩
  · cases he
    refine ⟨_, by simp [Op.shift, h0']; rfl, ?_⟩
    rw [e, Int.fdiv_eq_ediv_of_nonneg _ (Int.pow_nonneg (by omega))]
    exact .int
  · cases he

theorem int_ok (op : BinOp) (t : TypeId) (k : IntKind) (x y : Int) (P : Program) (w : World) (hn : op ≠ .shl ∧ op ≠ .shr) {c : AV} (he : binI op k x y = some c) {X : Ctx} :
    ∃ v, (binOp op t (.int k x) (.int k y)).run P w = .ok v w ∧ VRel X w c v := by
  cases op <;> (try (simp at hn; done)) <;> simp only [binI, Option.some.injEq] at he
  case add => subst he; rw [wrp_eq]; exact ⟨_, by simp [binOp, Op.intArith], .int⟩
  case sub => subst he; rw [wrp_eq]; exact ⟨_, by simp [binOp, Op.intArith], .int⟩
  case mul => subst he; rw [wrp_eq]; exact ⟨_, by simp [binOp, Op.intArith], .int⟩
  case quo =>
    unfold req at he
    split at he
    case isFalse => cases he
    rename_i h; cases he; rw [wrp_eq]; exact ⟨_, by simp [binOp, Op.intDiv, h], .int⟩
  case rem =>
    unfold req at he
    split at he
    case isFalse => cases he
    rename_i h; cases he; exact ⟨_, by simp [binOp, Op.intDiv, h], .int⟩
  case and => simpa [binOp] using bits_ok .and k x y P w (by simp) (c := c) (by simpa [binI] using he) (X := X)
  case or => simpa [binOp] using bits_ok .or k x y P w (by simp) (c := c) (by simpa [binI] using he) (X := X)
  case xor => simpa [binOp] using bits_ok .xor k x y P w (by simp) (c := c) (by simpa [binI] using he) (X := X)
  case andNot => simpa [binOp] using bits_ok .andNot k x y P w (by simp) (c := c) (by simpa [binI] using he) (X := X)
  all_goals (subst he; refine ⟨_, by simp [binOp, Op.intCmp]; rfl, ?_⟩)
  · rw [show decide (x = y) = (x == y) by rw [Bool.eq_iff_iff]; simp]; exact .bool
  · rw [show (!decide (x = y)) = (x != y) by rw [Bool.eq_iff_iff]; simp]; exact .bool
  all_goals exact .bool

theorem strLess_eq : ∀ a b : List UInt8, strLess a b = Op.bytesLess a b
  | a, [] => by cases a <;> rfl
  | [], _ :: _ => rfl
  | a :: x, b :: y => by unfold strLess Op.bytesLess; rw [strLess_eq x y]

theorem str_ok (op : BinOp) (t : TypeId) (a b : ByteArray) (P : Program) (w : World) {c : AV} (he : strOp op a.data.toList b.data.toList = some c) {X : Ctx} :
    ∃ v, (binOp op t (.string a) (.string b)).run P w = .ok v w ∧ VRel X w c v := by
  have hb : binOp op t (.string a) (.string b) = Op.stringOp op a b := by cases op <;> simp [binOp]
  rw [hb]
  cases op <;> simp only [strOp, Option.some.injEq, reduceCtorEq] at he
  case add =>
    unfold req at he
    split at he
    case isFalse => cases he
    rename_i h
    cases he
    have : ¬ ((a.size + b.size : Nat) : Int) > IntKind.i64.max := by simp [IntKind.max, IntKind.signed, IntKind.bits] at h ⊢; omega
    refine ⟨.string (a ++ b), by simp only [Op.stringOp]; rw [if_neg this]; rfl, .str (by simp)⟩
  all_goals (subst he; refine ⟨_, by simp only [Op.stringOp, Sem.run_pure]; rfl, ?_⟩; simp only [ByteArray.toList_eq, strLess_eq])
  · rw [show decide (a.data.toList = b.data.toList) = (a.data.toList == b.data.toList) by rw [Bool.eq_iff_iff]; simp]; exact .bool
  · rw [show decide (a.data.toList = b.data.toList) = (a.data.toList == b.data.toList) by rw [Bool.eq_iff_iff]; simp]; exact .bool
  · exact .bool
  · rw [show decide (a.data.toList = b.data.toList) = (a.data.toList == b.data.toList) by rw [Bool.eq_iff_iff]; simp]; exact .bool
  · rw [show decide (a.data.toList = b.data.toList) = (a.data.toList == b.data.toList) by rw [Bool.eq_iff_iff]; simp]; exact .bool
  · exact .bool

theorem un_ok (op : UnOp) {X : Ctx} {w : World} {x c : AV} {vx : Value} (hx : VRel X w x vx) (P : Program) (he : unAV op x = some c) : ∃ v, (Op.unary op vx).run P w = .ok v w ∧ VRel X w c v := by
  cases op <;> cases x <;> simp only [unAV, Option.some.injEq, reduceCtorEq] at he <;> subst he <;> cases hx
  · rename_i k n; rw [wrp_eq]; exact ⟨.int k (k.wrap (0 - n)), by simp [Op.unary, Op.intArith], .int⟩
  · rename_i k n
    have hm : toU k (if k.signed then -1 else k.max) = mask k := by cases k <;> rfl
    have := bits_ok .xor k (if k.signed then -1 else k.max) n P w (by simp) (c := .int k (wrp k ((toU k n ^^^ mask k : Nat) : Int))) (by simp only [binI, hm, Nat.xor_comm]) (X := X)
    simpa [Op.unary] using this
  · exact ⟨_, by simp [Op.unary], .bool⟩

theorem mm_ok (mx : Bool) {X : Ctx} {w : World} {x y c : AV} {vx vy : Value} (hx : VRel X w x vx) (hy : VRel X w y vy) (P : Program) (he : mm2 mx x y = some c) :
    ∃ v, ((if mx then Builtin.max2 vx vy else Builtin.min2 vx vy) : Sem Value).run P w = .ok v w ∧ VRel X w c v := by
  cases x <;> simp only [mm2, reduceCtorEq] at he
  cases y <;> simp only [reduceCtorEq] at he
  unfold req at he
  split at he
  case isFalse => cases he
  rename_i h
  subst h
  cases he
  cases hx
  cases hy
  cases mx
  · exact ⟨_, by simp [Builtin.min2]; rfl, by simp; exact .int⟩
  · exact ⟨_, by simp [Builtin.max2]; rfl, by simp; exact .int⟩

theorem mmAV_ok (mx : Bool) {X : Ctx} {w : World} (P : Program) : ∀ {xs : List AV} {vs : List Value} {x c : AV} {vx : Value}, VRel X w x vx → VRels X w xs vs → mmAV mx x xs = some c →
    ∃ v, (vs.foldlM (fun a b => if mx then Builtin.max2 a b else Builtin.min2 a b) vx : Sem Value).run P w = .ok v w ∧ VRel X w c v
  | [], vs, x, c, vx, hx, hs, he => by
    have : vs = [] := List.eq_nil_of_length_eq_zero (by rw [← hs.1]; rfl)
    subst this
    simp only [mmAV, Option.some.injEq] at he
    subst he
    exact ⟨vx, by simp, hx⟩
  | y :: ys, vs, x, c, vx, hx, hs, he => by
    cases vs with
    | nil => have := hs.1; simp at this
    | cons vy vys =>
      simp only [mmAV, Option.bind_eq_some_iff] at he
      obtain ⟨z, h1, h2⟩ := he
      obtain ⟨vz, k1, k2⟩ := mm_ok mx hx (hs.2 0 y vy (by simp) (by simp)) P h1
      have hs' : VRels X w ys vys := ⟨by have := hs.1; simpa using this, fun i c v a b => hs.2 (i + 1) c v (by simpa using a) (by simpa using b)⟩
      obtain ⟨v, m1, m2⟩ := mmAV_ok mx P k2 hs' h2
      exact ⟨v, by rw [List.foldlM_cons, Sem.run_bind, k1, Result.andThen_ok]; exact m1, m2⟩

end Go.Ab
