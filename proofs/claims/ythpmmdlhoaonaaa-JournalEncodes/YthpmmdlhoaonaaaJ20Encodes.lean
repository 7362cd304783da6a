/- JournalEncodes returns true and leaves its input alone, as the given statement says. Conditions: none. -/
import Derived.Test.YthpmmdlhoaonaaaRows
import Derived.Test.YthpmmdlhoaonaaaJ20Law3
import Derived.Test.YthpmmdlhoaonaaaAbRead2
namespace Go.Proofs.Ythpmmdlhoaonaaa
open Go.Ab Go.ChangeShapes Go.WideShapes Go.ChangeAt Go.RowKit

theorem own' : ownKnob Try.prog.godebug = none := by kernel_rfl
theorem laidOut' : laidOutB Try.prog = true := by kernel_rfl

theorem rd_bytes22 : Rd Try.prog 22 fun l => ∃ b : List UInt8, l = [.islice (rowsU8 b)] ∧ b.length ≤ maxLen := Rd_bytes Try.underlying22 Try.underlying5 (by kernel_rfl)
theorem rd_rec24 : Rd Try.prog 24 fun l => ∃ (k : UInt8) (d : List UInt8), l = Ab.Try.S.recV k d ∧ d.length ≤ maxLen := by
  have e : 0 + Try.prog.cellsOf 5 + Try.prog.cellsOf 22 = Try.prog.cellsOf 24 := by kernel_rfl
  have h0 : Rds Try.prog (0 + Try.prog.cellsOf 5 + Try.prog.cellsOf 22) [] (fun l => l = []) (Try.prog.cellsOf 24) := by rw [e]; exact .nil
  have h : Rd Try.prog 24 (fun l => ∃ a b, l = a ++ b ∧ (∃ k : UInt8, a = [.int .u8 k.toNat]) ∧ ∃ a' b', b = a' ++ b' ∧ (∃ x : List UInt8, a' = [.islice (rowsU8 x)] ∧ x.length ≤ maxLen) ∧ b' = []) :=
    Rd_struct Try.underlying24 (.cons rfl (Rd_u8 Try.underlying5) (.cons (by kernel_rfl) rd_bytes22 h0))
  exact @Rd.mono _ _ _ _ h fun l ⟨a, b, h1, ⟨k, h2⟩, c, d, h3, ⟨x, h4, h5⟩, h6⟩ => ⟨k, x, by rw [h1, h2, h3, h4, h6]; rfl, h5⟩

set_option maxRecDepth 100000 in
theorem encodes_lifted (os : Os) (started : os.Started) (H : Type) (enc : TypeId × Value → H) :
    ReturnsInHanded {} Try.checked os 3 .any (Rows.journalEncodesSpec.pre6 enc Try.prog Try.f3 Rows.journalEncodesRow.domain false) (Rows.journalEncodesSpec.post enc Try.prog Try.f3 false true false false) := by
  refine law_read (C := Try.checked) (tb := 4) own' started (by kernel_rfl) Try.func3
    (ChangeSpec.witness6 (enc := enc) (C := Try.checked) false ⟨#[], #[.int .i64 0, .agg #[.int .u8 0, .slice none 0 0], .slice none 0 0], []⟩ 8 (by kernel_rfl) (by kernel_rfl) (by kernel_rfl) (by kernel_rfl))
    laidOut' rfl rfl Try.underlying4 (params_of (by kernel_rfl)) (by intro ds h; match ds, h with | [_, _, _], _ => rfl)
    (.c (Rd_i64 Try.underlying3) Try.underlying3 (.c rd_rec24 Try.underlying24 (.c rd_bytes22 Try.underlying22 .nil))) ?_
  intro avs h
  obtain ⟨c1, t1, rfl, h1, h⟩ := h.c Try.underlying3
  obtain ⟨c2, t2, rfl, h2, h⟩ := h.c Try.underlying24
  obtain ⟨c3, t3, rfl, h3, h⟩ := h.c Try.underlying22
  have := h.n
  subst this
  obtain ⟨n, h1, _⟩ := h1
  obtain ⟨l, rfl, k, d, rfl, hd⟩ := h2
  obtain ⟨b, h3, hb⟩ := h3
  cases h1
  cases h3
  exact Ab.Try.S.law3 n k d b

theorem encodes_holds : Rows.JournalEncodesSaid :=
  OpenClaim.holds_of_wide 3 Try.f3 rfl rfl rfl rfl rfl rfl rfl ⟨rfl, rfl, rfl, rfl, rfl⟩ rfl rfl rfl rfl rfl (by kernel_rfl) Try.func3 (by kernel_rfl)
    (of_decide_eq_true (by kernel_rfl)) (by unfold Func.isWrapper; first | (rw [if_pos (by decide +kernel)]; kernel_rfl) | (rw [if_neg (by decide +kernel)]; exact ⟨rfl, rfl⟩))
    (fun os started H enc _ => encodes_lifted os started H enc)
end Go.Proofs.Ythpmmdlhoaonaaa
