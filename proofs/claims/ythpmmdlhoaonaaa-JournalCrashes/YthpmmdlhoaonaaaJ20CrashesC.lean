/- JournalCrashes returns true and leaves its input alone, xs the given statement says. Conditions: none. -/
import Derived.Test.YthpmmdlhoaonaaaRows
import Derived.Test.YthpmmdlhoaonaaaJ20Law10
import Derived.Test.YthpmmdlhoaonaaaAbRead2
namespace Go.Proofs.Ythpmmdlhoaonaaa
open Go.Ab Go.ChangeShapes Go.WideShapes Go.ChangeAt Go.RowKit

theorem own' : ownKnob Try.prog.godebug = none := by kernel_rfl
theorem laidOut' : laidOutB Try.prog = true := by kernel_rfl

theorem rd_bytes22 : Rd Try.prog 22 fun l => ∃ b : List UInt8, l = [.islice (rowsU8 b)] ∧ b.length ≤ maxLen := Rd_bytes Try.underlying22 Try.underlying5 (by kernel_rfl)
theorem rd_rec24 : Rd Try.prog 24 fun l => ∃ (k : UInt8) (d : List UInt8), l = Ab.Try.S.recV k d ∧ d.length ≤ maxLen := by
  have e : 0 + Try.prog.cellsOf 5 + Try.prog.cellsOf 22 = Try.prog.cellsOf 24 := by kernel_rfl
  have h0 : Rds Try.prog (0 + Try.prog.cellsOf 5 + Try.prog.cellsOf 22) [] (fun l => l = []) (Try.prog.cellsOf 24) := by rw [e]; exact .nil
  have h : Rd Try.prog 24 (fun l => ∃ a b, l = a ++ b ∧ (∃ k : UInt8, a = [.int .u8 k.toNat]) ∧ ∃ a' b', b = a' ++ b' ∧ (∃ x : List UInt8, a' = [.islice (rowsU8 x)] ∧ x.length ≤ maxLen) ∧ b' = []) :=
    Rd_struct Try.underlying24 (.cons rfl (Rd_u8 Try.underlying5) (.cons (by kernel_rfl) rd_bytes22 h0))
  exact @Rd.mono _ _ _ _ h fun l ⟨a, b, h1, ⟨k, h2⟩, c, d, h3, ⟨x, h4, h5⟩, h6⟩ => ⟨k, x, by rw [h1, h2, h3, h4, h6]; rfl, h5⟩
theorem rd_log36 : Rd Try.prog 36 fun l => ∃ (b : List UInt8) (s c : Int), l = Ab.Try.S.logV b s c ∧ b.length ≤ maxLen := by
  have e : 0 + Try.prog.cellsOf 22 + Try.prog.cellsOf 3 + Try.prog.cellsOf 3 = Try.prog.cellsOf 36 := by kernel_rfl
  have h0 : Rds Try.prog (0 + Try.prog.cellsOf 22 + Try.prog.cellsOf 3 + Try.prog.cellsOf 3) [] (fun l => l = []) (Try.prog.cellsOf 36) := by rw [e]; exact .nil
  have h : Rd Try.prog 36 (fun l => ∃ a b, l = a ++ b ∧ (∃ x : List UInt8, a = [.islice (rowsU8 x)] ∧ x.length ≤ maxLen) ∧ ∃ a' b', b = a' ++ b' ∧ (∃ n : Int, a' = [.int .i64 n] ∧ -9223372036854775808 ≤ n ∧ n < 9223372036854775808) ∧ ∃ a2 b2, b' = a2 ++ b2 ∧ (∃ n : Int, a2 = [.int .i64 n] ∧ -9223372036854775808 ≤ n ∧ n < 9223372036854775808) ∧ b2 = []) :=
    Rd_struct Try.underlying36 (.cons rfl rd_bytes22 (.cons (by kernel_rfl) (Rd_i64 Try.underlying3) (.cons (by kernel_rfl) (Rd_i64 Try.underlying3) h0)))
  exact @Rd.mono _ _ _ _ h fun l ⟨a, b, h1, ⟨x, h2, hx⟩, c, d, h3, ⟨n, h4, _⟩, c2, d2, h5, ⟨m, h6, _⟩, h7⟩ => ⟨x, n, m, by rw [h1, h2, h3, h4, h5, h6, h7]; rfl, hx⟩
def actRow (a : Ab.Try.S.Act) : Row := [.int .u8 a.1.toNat, .int .u8 a.2.1.1.toNat, .islice (rowsU8 a.2.1.2), .int .u16 a.2.2]
theorem rd_act57 : Rd Try.prog 57 fun l => ∃ (a : Ab.Try.S.Act), l = actRow a ∧ a.2.2 < 65536 := by
  have e : 0 + Try.prog.cellsOf 5 + Try.prog.cellsOf 24 + Try.prog.cellsOf 33 = Try.prog.cellsOf 57 := by kernel_rfl
  have h0 : Rds Try.prog (0 + Try.prog.cellsOf 5 + Try.prog.cellsOf 24 + Try.prog.cellsOf 33) [] (fun l => l = []) (Try.prog.cellsOf 57) := by rw [e]; exact .nil
  have h : Rd Try.prog 57 (fun l => ∃ a b, l = a ++ b ∧ (∃ k : UInt8, a = [.int .u8 k.toNat]) ∧ ∃ a' b', b = a' ++ b' ∧ (∃ (k : UInt8) (d : List UInt8), a' = Ab.Try.S.recV k d ∧ d.length ≤ maxLen) ∧ ∃ a2 b2, b' = a2 ++ b2 ∧ (∃ n : Nat, a2 = [.int .u16 n] ∧ n < 65536) ∧ b2 = []) :=
    Rd_struct Try.underlying57 (.cons rfl (Rd_u8 Try.underlying5) (.cons (by kernel_rfl) rd_rec24 (.cons (by kernel_rfl) (Rd_u16 Try.underlying33) h0)))
  exact @Rd.mono _ _ _ _ h fun l ⟨a, b, h1, ⟨k, h2⟩, c, d, h3, ⟨k2, x, h4, _⟩, c2, d2, h5, ⟨n, h6, hn⟩, h7⟩ => ⟨(k, (k2, x), n), by rw [h1, h2, h3, h4, h5, h6, h7]; rfl, hn⟩
theorem rd_acts55 : Rd Try.prog 55 fun l => ∃ xs : List Ab.Try.S.Act, l = [.islice (Ab.Try.S.actRows xs)] ∧ xs.length ≤ maxLen ∧ ∀ a ∈ xs, a.2.2 < 65536 :=
  Rd.mono (Rd_list actRow Try.underlying55 (s := 4) (by kernel_rfl) (by omega) rd_act57 (fun l ⟨a, h, _⟩ => ⟨a, h⟩)) fun l ⟨xs, h1, h2, h3⟩ => ⟨xs, h1, h2, fun a ha => by
    obtain ⟨b, h4, h5⟩ := h3 a ha
    simp only [actRow, List.cons.injEq, AV.int.injEq, true_and, and_true] at h4
    omega⟩

set_option maxRecDepth 100000 in
theorem law_lifted' (os : Os) (started : os.Started) (H : Type) (enc : TypeId × Value → H) :
    ReturnsInHanded {} Try.checked os 10 .any (Rows.journalCrashesSpec.pre6 enc Try.prog Try.f10 Rows.journalCrashesRow.domain false) (Rows.journalCrashesSpec.post enc Try.prog Try.f10 false true false false) := by
  refine law_read (C := Try.checked) (tb := 4) own' started (by kernel_rfl) Try.func10
    (ChangeSpec.witness6 (enc := enc) (C := Try.checked) false ⟨#[], #[.slice none 0 0], []⟩ 8 (by kernel_rfl) (by kernel_rfl) (by kernel_rfl) (by kernel_rfl))
    laidOut' rfl rfl Try.underlying4 (params_of (by kernel_rfl)) (by intro ds h; match ds, h with | [_], _ => rfl)
    (.c rd_acts55 Try.underlying55 .nil) ?_
  intro avs h
  obtain ⟨c0, t0, rfl, h0, h⟩ := h.c Try.underlying55
  have := h.n
  subst this
  obtain ⟨xs, h0', hm, hk⟩ := h0
  cases h0'
  exact Ab.Try.S.law10 xs (Nat.le_trans hm (by decide)) hk

theorem law_holds : Rows.JournalCrashesSaid :=
  OpenClaim.holds_of_wide 10 Try.f10 rfl rfl rfl rfl rfl rfl rfl ⟨rfl, rfl, rfl, rfl, rfl⟩ rfl rfl rfl rfl rfl (by kernel_rfl) Try.func10 (by kernel_rfl)
    (of_decide_eq_true (by kernel_rfl)) (by unfold Func.isWrapper; first | (rw [if_pos (by decide +kernel)]; kernel_rfl) | (rw [if_neg (by decide +kernel)]; exact ⟨rfl, rfl⟩))
    (fun os started H enc _ => law_lifted' os started H enc)
end Go.Proofs.Ythpmmdlhoaonaaa
