/- CallmodelSteps returns true and leaves its input alone, as the given statement says. Conditions: none. -/
import Derived.Test.YtomcdnibcdojcaaRows
import Derived.Test.YtomcdnibcdojcaaJ33Law6
import Derived.Test.YtomcdnibcdojcaaAbArr
import Derived.Test.YtomcdnibcdojcaaAbRead2
namespace Go.Proofs.Ytomcdnibcdojcaa
open Go.Ab Go.ChangeShapes Go.WideShapes Go.ChangeAt Go.RowKit

theorem own' : ownKnob Try.prog.godebug = none := by kernel_rfl
theorem laidOut' : laidOutB Try.prog = true := by kernel_rfl

def i64Φ : List AV → Prop := fun l => ∃ n : Int, l = [.int .i64 n] ∧ -9223372036854775808 ≤ n ∧ n < 9223372036854775808
def u8Φ : List AV → Prop := fun l => ∃ k : UInt8, l = [.int .u8 k.toNat]
theorem rd_call30 : Rd Try.prog 30 fun l => ∃ c : Ab.Try.S.Ca, l = c.row := by
  have e : 0 + Try.prog.cellsOf 9 + Try.prog.cellsOf 27 + Try.prog.cellsOf 28 + Try.prog.cellsOf 3 + Try.prog.cellsOf 3 + Try.prog.cellsOf 3 + Try.prog.cellsOf 3 + Try.prog.cellsOf 3 + Try.prog.cellsOf 3 = Try.prog.cellsOf 30 := by kernel_rfl
  have h0 : Rds Try.prog (0 + Try.prog.cellsOf 9 + Try.prog.cellsOf 27 + Try.prog.cellsOf 28 + Try.prog.cellsOf 3 + Try.prog.cellsOf 3 + Try.prog.cellsOf 3 + Try.prog.cellsOf 3 + Try.prog.cellsOf 3 + Try.prog.cellsOf 3) [] (fun l => l = []) (Try.prog.cellsOf 30) := by rw [e]; exact .nil
  have h : Rd Try.prog 30 (fun l => ∃ a b, l = a ++ b ∧ (∃ s : List UInt8, a = [.str s] ∧ s.length ≤ maxLen) ∧ ∃ a1 b1, b = a1 ++ b1 ∧ u8Φ a1 ∧ ∃ a2 b2, b1 = a2 ++ b2 ∧ (∃ x y, a2 = x ++ y ∧ (∃ p : Bool, x = [.bool p]) ∧ (∃ q : Bool, y = [.bool q])) ∧ ∃ a3 b3, b2 = a3 ++ b3 ∧ i64Φ a3 ∧ ∃ a4 b4, b3 = a4 ++ b4 ∧ i64Φ a4 ∧ ∃ a5 b5, b4 = a5 ++ b5 ∧ i64Φ a5 ∧ ∃ a6 b6, b5 = a6 ++ b6 ∧ i64Φ a6 ∧ ∃ a7 b7, b6 = a7 ++ b7 ∧ i64Φ a7 ∧ ∃ a8 b8, b7 = a8 ++ b8 ∧ i64Φ a8 ∧ b8 = []) :=
    Rd_struct Try.underlying30 (.cons rfl (Rd_str Try.underlying9) (.cons (by kernel_rfl) (Rd_u8 Try.underlying27) (.cons (by kernel_rfl) (Rd_arr2 Try.underlying28 (by kernel_rfl) (by kernel_rfl) (Rd_bool Try.underlying4))
      (.cons (by kernel_rfl) (Rd_i64 Try.underlying3) (.cons (by kernel_rfl) (Rd_i64 Try.underlying3) (.cons (by kernel_rfl) (Rd_i64 Try.underlying3) (.cons (by kernel_rfl) (Rd_i64 Try.underlying3) (.cons (by kernel_rfl) (Rd_i64 Try.underlying3) (.cons (by kernel_rfl) (Rd_i64 Try.underlying3) h0)))))))))
  exact @Rd.mono _ _ _ _ h fun l ⟨a, b, h1, ⟨s, h2, _⟩, c, d, h3, ⟨k, h4⟩, c2, d2, h5, ⟨x, y, h6, ⟨p, h7⟩, ⟨q, h8⟩⟩, c3, d3, h9, ⟨n3, h10, _⟩, c4, d4, h11, ⟨n4, h12, _⟩, c5, d5, h13, ⟨n5, h14, _⟩, c6, d6, h15, ⟨n6, h16, _⟩, c7, d7, h17, ⟨n7, h18, _⟩, c8, d8, h19, ⟨n8, h20, _⟩, h21⟩ =>
    ⟨⟨s, k.toNat, p, q, n3, n4, n5, n6, n7, n8⟩, by rw [h1, h2, h3, h4, h5, h6, h7, h8, h9, h10, h11, h12, h13, h14, h15, h16, h17, h18, h19, h20, h21]; rfl⟩
theorem rd_event36 : Rd Try.prog 36 fun l => ∃ e : Ab.Try.S.Ev, l = e.row := by
  have e : 0 + Try.prog.cellsOf 34 + Try.prog.cellsOf 9 + Try.prog.cellsOf 3 + Try.prog.cellsOf 3 + Try.prog.cellsOf 3 = Try.prog.cellsOf 36 := by kernel_rfl
  have h0 : Rds Try.prog (0 + Try.prog.cellsOf 34 + Try.prog.cellsOf 9 + Try.prog.cellsOf 3 + Try.prog.cellsOf 3 + Try.prog.cellsOf 3) [] (fun l => l = []) (Try.prog.cellsOf 36) := by rw [e]; exact .nil
  have h : Rd Try.prog 36 (fun l => ∃ a b, l = a ++ b ∧ u8Φ a ∧ ∃ a1 b1, b = a1 ++ b1 ∧ (∃ s : List UInt8, a1 = [.str s] ∧ s.length ≤ maxLen) ∧ ∃ a2 b2, b1 = a2 ++ b2 ∧ i64Φ a2 ∧ ∃ a3 b3, b2 = a3 ++ b3 ∧ i64Φ a3 ∧ ∃ a4 b4, b3 = a4 ++ b4 ∧ i64Φ a4 ∧ b4 = []) :=
    Rd_struct Try.underlying36 (.cons rfl (Rd_u8 Try.underlying34) (.cons (by kernel_rfl) (Rd_str Try.underlying9) (.cons (by kernel_rfl) (Rd_i64 Try.underlying3) (.cons (by kernel_rfl) (Rd_i64 Try.underlying3) (.cons (by kernel_rfl) (Rd_i64 Try.underlying3) h0)))))
  exact @Rd.mono _ _ _ _ h fun l ⟨a, b, h1, ⟨k, h2⟩, c, d, h3, ⟨s, h4, _⟩, c2, d2, h5, ⟨n2, h6, _⟩, c3, d3, h7, ⟨n3, h8, _⟩, c4, d4, h9, ⟨n4, h10, _⟩, h11⟩ =>
    ⟨⟨k.toNat, s, n2, n3, n4⟩, by rw [h1, h2, h3, h4, h5, h6, h7, h8, h9, h10, h11]; rfl⟩

set_option maxRecDepth 100000 in
theorem law_lifted' (os : Os) (started : os.Started) (H : Type) (enc : TypeId × Value → H) :
    ReturnsInHanded {} Try.checked os 6 .any (Rows.callmodelStepsSpec.pre6 enc Try.prog Try.f6 Rows.callmodelStepsRow.domain false) (Rows.callmodelStepsSpec.post enc Try.prog Try.f6 false true false false) := by
  refine law_read (C := Try.checked) (tb := 4) own' started (by kernel_rfl) Try.func6
    (ChangeSpec.witness6 (enc := enc) (C := Try.checked) false ⟨#[], #[.agg #[.string ByteArray.empty, .int .u8 0, .bool false, .bool false, .int .i64 0, .int .i64 0, .int .i64 0, .int .i64 0, .int .i64 0, .int .i64 0], .agg #[.int .u8 0, .string ByteArray.empty, .int .i64 0, .int .i64 0, .int .i64 0]], []⟩ 8 (by kernel_rfl) (by kernel_rfl) (by kernel_rfl) (by kernel_rfl))
    laidOut' rfl rfl Try.underlying4 (params_of (by kernel_rfl)) (by intro ds h; match ds, h with | [_, _], _ => rfl)
    (.c rd_call30 Try.underlying30 (.c rd_event36 Try.underlying36 .nil)) ?_
  intro avs h
  obtain ⟨c0, t0, rfl, h0, h⟩ := h.c Try.underlying30
  obtain ⟨c1, t1, rfl, h1, h⟩ := h.c Try.underlying36
  have := h.n
  subst this
  obtain ⟨l, rfl, c, rfl⟩ := h0
  obtain ⟨l, rfl, e, rfl⟩ := h1
  exact ⟨[], Ab.Try.S.law6 c e⟩

theorem law_holds : Rows.CallmodelStepsSaid :=
  OpenClaim.holds_of_wide 6 Try.f6 rfl rfl rfl rfl rfl rfl rfl ⟨rfl, rfl, rfl, rfl, rfl⟩ rfl rfl rfl rfl rfl (by kernel_rfl) Try.func6 (by kernel_rfl)
    (of_decide_eq_true (by kernel_rfl)) (by unfold Func.isWrapper; first | (rw [if_pos (by decide +kernel)]; kernel_rfl) | (rw [if_neg (by decide +kernel)]; exact ⟨rfl, rfl⟩))
    (fun os started H enc _ => law_lifted' os started H enc)
end Go.Proofs.Ytomcdnibcdojcaa
