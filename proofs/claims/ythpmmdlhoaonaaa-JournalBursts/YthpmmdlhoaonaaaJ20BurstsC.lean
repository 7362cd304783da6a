/- JournalBursts returns true and leaves its input alone, as the given statement says. Conditions: none. -/
import Derived.Test.YthpmmdlhoaonaaaRows
import Derived.Test.YthpmmdlhoaonaaaJ20Law6
import Derived.Test.YthpmmdlhoaonaaaAbRead2
namespace Go.Proofs.Ythpmmdlhoaonaaa
open Go.Ab Go.ChangeShapes Go.WideShapes Go.ChangeAt Go.RowKit

theorem own' : ownKnob Try.prog.godebug = none := by kernel_rfl
theorem laidOut' : laidOutB Try.prog = true := by kernel_rfl

theorem rd_bytes22 : Rd Try.prog 22 fun l => ∃ b : List UInt8, l = [.islice (rowsU8 b)] ∧ b.length ≤ maxLen := Rd_bytes Try.underlying22 Try.underlying5 (by kernel_rfl)
theorem rd_rec24 : Rd Try.prog 24 fun l => ∃ (k : UInt8) (d : List UInt8), l = Ab.Try.S.recV k d ∧ d.length ≤ maxLen := by
  have e : 0 + Try.prog.cellsOf 5 + Try.prog.cellsOf 22 = Try.prog.cellsOf 24 := by kernel_rfl
  have h0 : Rds Try.prog (0 + Try.prog.cellsOf 5 + Try.prog.cellsOf 22) [] (fun l => l = []) (Try.prog.cellsOf 24) := by rw [e]; exact .nil
  have h : Rd Try.prog 24 (fun l => ∃ a b, l = a ++ b ∧ (∃ k : UInt8, a = [.int .u8 k.toNat]) ∧ ∃ a' b', b = a' ++ b' ∧ (∃ x : List UInt8, a' = [.islice (rowsU8 x)] ∧ x.length ≤ maxLen) ∧ b' = []) :=
    Rd_struct Try.underlying24 (.cons rfl (Rd_u8 Try.underlying5) (.cons (by kernel_rfl) rd_bytes22 h0))
  exact @Rd.mono _ _ _ _ h fun l ⟨a, b, h1, ⟨k, h2⟩, c, d, h3, ⟨x, h4, h5⟩, h6⟩ => ⟨k, x, by rw [h1, h2, h3, h4, h6]; rfl, h5⟩
theorem rd_log36 : Rd Try.prog 36 fun l => ∃ (b : List UInt8) (s c : Int), l = Ab.Try.S.logV b s c ∧ b.length ≤ maxLen := by
  have e : 0 + Try.prog.cellsOf 22 + Try.prog.cellsOf 3 + Try.prog.cellsOf 3 = Try.prog.cellsOf 36 := by kernel_rfl
  have h0 : Rds Try.prog (0 + Try.prog.cellsOf 22 + Try.prog.cellsOf 3 + Try.prog.cellsOf 3) [] (fun l => l = []) (Try.prog.cellsOf 36) := by rw [e]; exact .nil
  have h : Rd Try.prog 36 (fun l => ∃ a b, l = a ++ b ∧ (∃ x : List UInt8, a = [.islice (rowsU8 x)] ∧ x.length ≤ maxLen) ∧ ∃ a' b', b = a' ++ b' ∧ (∃ n : Int, a' = [.int .i64 n] ∧ -9223372036854775808 ≤ n ∧ n < 9223372036854775808) ∧ ∃ a2 b2, b' = a2 ++ b2 ∧ (∃ n : Int, a2 = [.int .i64 n] ∧ -9223372036854775808 ≤ n ∧ n < 9223372036854775808) ∧ b2 = []) :=
    Rd_struct Try.underlying36 (.cons rfl rd_bytes22 (.cons (by kernel_rfl) (Rd_i64 Try.underlying3) (.cons (by kernel_rfl) (Rd_i64 Try.underlying3) h0)))
  exact @Rd.mono _ _ _ _ h fun l ⟨a, b, h1, ⟨x, h2, hx⟩, c, d, h3, ⟨n, h4, _⟩, c2, d2, h5, ⟨m, h6, _⟩, h7⟩ => ⟨x, n, m, by rw [h1, h2, h3, h4, h5, h6, h7]; rfl, hx⟩
theorem rd_recs32 : Rd Try.prog 32 fun l => ∃ rs : List Ab.Try.S.Rcd, l = [.islice (Ab.Try.S.recRows rs)] ∧ rs.length ≤ maxLen :=
  Rd.mono (Rd_list (fun r : Ab.Try.S.Rcd => Ab.Try.S.recV r.1 r.2) Try.underlying32 (s := 2) (by kernel_rfl) (by omega) rd_rec24 (fun l ⟨k, d, h, _⟩ => ⟨(k, d), h⟩)) fun l ⟨rs, h1, h2, _⟩ => ⟨rs, h1, h2⟩

set_option maxRecDepth 100000 in
theorem law_lifted' (os : Os) (started : os.Started) (H : Type) (enc : TypeId × Value → H) :
    ReturnsInHanded {} Try.checked os 6 .any (Rows.journalBurstsSpec.pre6 enc Try.prog Try.f6 Rows.journalBurstsRow.domain false) (Rows.journalBurstsSpec.post enc Try.prog Try.f6 false true false false) := by
  refine law_read (C := Try.checked) (tb := 4) own' started (by kernel_rfl) Try.func6
    (ChangeSpec.witness6 (enc := enc) (C := Try.checked) false ⟨#[], #[.slice none 0 0, .int .u16 0, .int .u16 0, .int .u32 0], []⟩ 8 (by kernel_rfl) (by kernel_rfl) (by kernel_rfl) (by kernel_rfl))
    laidOut' rfl rfl Try.underlying4 (params_of (by kernel_rfl)) (by intro ds h; match ds, h with | [_, _, _, _], _ => rfl)
    (.c rd_recs32 Try.underlying32 (.c (Rd_u16 Try.underlying33) Try.underlying33 (.c (Rd_u16 Try.underlying33) Try.underlying33 (.c (Rd_u32 Try.underlying29) Try.underlying29 .nil)))) ?_
  intro avs h
  obtain ⟨c0, t0, rfl, h0, h⟩ := h.c Try.underlying32
  obtain ⟨c1, t1, rfl, h1, h⟩ := h.c Try.underlying33
  obtain ⟨c2, t2, rfl, h2, h⟩ := h.c Try.underlying33
  obtain ⟨c3, t3, rfl, h3, h⟩ := h.c Try.underlying29
  have := h.n
  subst this
  obtain ⟨rs, h0', hm⟩ := h0
  cases h0'
  obtain ⟨n1, h1', hn1⟩ := h1
  cases h1'
  obtain ⟨n2, h2', hn2⟩ := h2
  cases h2'
  obtain ⟨n3, h3', hn3⟩ := h3
  cases h3'
  exact ⟨_, Ab.Try.S.law6 rs n1 n2 n3 (Nat.le_trans hm (by decide)) hn1 hn2 hn3⟩

theorem law_holds : Rows.JournalBurstsSaid :=
  OpenClaim.holds_of_wide 6 Try.f6 rfl rfl rfl rfl rfl rfl rfl ⟨rfl, rfl, rfl, rfl, rfl⟩ rfl rfl rfl rfl rfl (by kernel_rfl) Try.func6 (by kernel_rfl)
    (of_decide_eq_true (by kernel_rfl)) (by unfold Func.isWrapper; first | (rw [if_pos (by decide +kernel)]; kernel_rfl) | (rw [if_neg (by decide +kernel)]; exact ⟨rfl, rfl⟩))
    (fun os started H enc _ => law_lifted' os started H enc)
end Go.Proofs.Ythpmmdlhoaonaaa
