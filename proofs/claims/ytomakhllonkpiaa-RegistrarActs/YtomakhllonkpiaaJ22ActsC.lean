/- RegistrarActs returns true and leaves its input alone, as the given statement says. Conditions: none. -/
import Derived.Test.YtomakhllonkpiaaRows
import Derived.Test.YtomakhllonkpiaaJ22Law4
import Derived.Test.YtomakhllonkpiaaAbRead2
namespace Go.Proofs.Ytomakhllonkpiaa
open Go.Ab Go.ChangeShapes Go.WideShapes Go.ChangeAt Go.RowKit

theorem own' : ownKnob Try.prog.godebug = none := by kernel_rfl
theorem laidOut' : laidOutB Try.prog = true := by kernel_rfl

def i64Φ : List AV → Prop := fun l => ∃ n : Int, l = [.int .i64 n] ∧ -9223372036854775808 ≤ n ∧ n < 9223372036854775808
def u8Φ : List AV → Prop := fun l => ∃ k : UInt8, l = [.int .u8 k.toNat]
def u16Φ : List AV → Prop := fun l => ∃ k : Nat, l = [.int .u16 k] ∧ k < 65536
def strΦ : List AV → Prop := fun l => ∃ s : List UInt8, l = [.str s] ∧ s.length ≤ maxLen
def boolΦ : List AV → Prop := fun l => ∃ b : Bool, l = [.bool b]
def ctΦ : List AV → Prop := fun l => ∃ cs : List Ab.Try.S.Ct, l = [.islice (Ab.Try.S.ctRows cs)]
def ptΦ : List AV → Prop := fun l => ∃ ps : List (List UInt8), l = [.islice (Ab.Try.S.ptRows ps)]
set_option maxRecDepth 100000 in
theorem rd_cfg23 : Rd Try.prog 23 fun l => ∃ c : Ab.Try.S.Cf, l = c.row := by
  have e : 0 + Try.prog.cellsOf 3 + Try.prog.cellsOf 3 + Try.prog.cellsOf 3 + Try.prog.cellsOf 3 = Try.prog.cellsOf 23 := by kernel_rfl
  have h0 : Rds Try.prog (0 + Try.prog.cellsOf 3 + Try.prog.cellsOf 3 + Try.prog.cellsOf 3 + Try.prog.cellsOf 3) [] (fun l => l = []) (Try.prog.cellsOf 23) := by rw [e]; exact .nil
  have h : Rd Try.prog 23 (fun l => ∃ a0 b0, l = a0 ++ b0 ∧ i64Φ a0 ∧ ∃ a1 b1, b0 = a1 ++ b1 ∧ i64Φ a1 ∧ ∃ a2 b2, b1 = a2 ++ b2 ∧ i64Φ a2 ∧ ∃ a3 b3, b2 = a3 ++ b3 ∧ i64Φ a3 ∧ b3 = []) :=
    Rd_struct Try.underlying23 (.cons rfl (Rd_i64 Try.underlying3) (.cons (by kernel_rfl) (Rd_i64 Try.underlying3) (.cons (by kernel_rfl) (Rd_i64 Try.underlying3) (.cons (by kernel_rfl) (Rd_i64 Try.underlying3) h0))))
  exact @Rd.mono _ _ _ _ h fun l ⟨a0, b0, e0, ⟨a, g0, aok⟩, a1, b1, e1, ⟨b, g1, bok⟩, a2, b2, e2, ⟨c, g2, cok⟩, a3, b3, e3, ⟨d, g3, dok⟩, gn⟩ => ⟨⟨a, b, c, d⟩, by rw [e0, g0, e1, g1, e2, g2, e3, g3, gn]; rfl⟩
set_option maxRecDepth 100000 in
theorem rd_contact49 : Rd Try.prog 49 fun l => ∃ c : Ab.Try.S.Ct, l = c.row ∧ (-9223372036854775808 ≤ c.q ∧ c.q < 9223372036854775808) ∧ (-9223372036854775808 ≤ c.exp ∧ c.exp < 9223372036854775808) := by
  have e : 0 + Try.prog.cellsOf 9 + Try.prog.cellsOf 3 + Try.prog.cellsOf 3 = Try.prog.cellsOf 49 := by kernel_rfl
  have h0 : Rds Try.prog (0 + Try.prog.cellsOf 9 + Try.prog.cellsOf 3 + Try.prog.cellsOf 3) [] (fun l => l = []) (Try.prog.cellsOf 49) := by rw [e]; exact .nil
  have h : Rd Try.prog 49 (fun l => ∃ a0 b0, l = a0 ++ b0 ∧ strΦ a0 ∧ ∃ a1 b1, b0 = a1 ++ b1 ∧ i64Φ a1 ∧ ∃ a2 b2, b1 = a2 ++ b2 ∧ i64Φ a2 ∧ b2 = []) :=
    Rd_struct Try.underlying49 (.cons rfl (Rd_str Try.underlying9) (.cons (by kernel_rfl) (Rd_i64 Try.underlying3) (.cons (by kernel_rfl) (Rd_i64 Try.underlying3) h0)))
  exact @Rd.mono _ _ _ _ h fun l ⟨a0, b0, e0, ⟨a, g0, aok⟩, a1, b1, e1, ⟨b, g1, bok⟩, a2, b2, e2, ⟨c, g2, cok⟩, gn⟩ => ⟨⟨a, b, c⟩, by rw [e0, g0, e1, g1, e2, g2, gn]; rfl, bok, cok⟩
theorem rd_contacts24 : Rd Try.prog 24 fun l => ∃ cs : List Ab.Try.S.Ct, l = [.islice (Ab.Try.S.ctRows cs)] :=
  Rd.mono (Rd_list Ab.Try.S.Ct.row Try.underlying24 (s := 3) (by kernel_rfl) (by omega) rd_contact49 (fun l ⟨f, h, _⟩ => ⟨f, h⟩)) fun l ⟨fs, h1, _, _⟩ => ⟨fs, h1⟩
theorem rd_path25 : Rd Try.prog 25 fun l => ∃ ps : List (List UInt8), l = [.islice (Ab.Try.S.ptRows ps)] :=
  Rd.mono (Rd_list Ab.Try.S.ptRow Try.underlying25 (s := 1) (by kernel_rfl) (by omega) (Rd_str Try.underlying9) (fun l ⟨f, h, _⟩ => ⟨f, h⟩)) fun l ⟨fs, h1, _, _⟩ => ⟨fs, h1⟩
set_option maxRecDepth 100000 in
theorem rd_reg27 : Rd Try.prog 27 fun l => ∃ r : Ab.Try.S.Rg, l = r.row := by
  have e : 0 + Try.prog.cellsOf 9 + Try.prog.cellsOf 9 + Try.prog.cellsOf 3 + Try.prog.cellsOf 4 + Try.prog.cellsOf 24 + Try.prog.cellsOf 3 + Try.prog.cellsOf 9 + Try.prog.cellsOf 3 + Try.prog.cellsOf 25 = Try.prog.cellsOf 27 := by kernel_rfl
  have h0 : Rds Try.prog (0 + Try.prog.cellsOf 9 + Try.prog.cellsOf 9 + Try.prog.cellsOf 3 + Try.prog.cellsOf 4 + Try.prog.cellsOf 24 + Try.prog.cellsOf 3 + Try.prog.cellsOf 9 + Try.prog.cellsOf 3 + Try.prog.cellsOf 25) [] (fun l => l = []) (Try.prog.cellsOf 27) := by rw [e]; exact .nil
  have h : Rd Try.prog 27 (fun l => ∃ a0 b0, l = a0 ++ b0 ∧ strΦ a0 ∧ ∃ a1 b1, b0 = a1 ++ b1 ∧ strΦ a1 ∧ ∃ a2 b2, b1 = a2 ++ b2 ∧ i64Φ a2 ∧ ∃ a3 b3, b2 = a3 ++ b3 ∧ boolΦ a3 ∧ ∃ a4 b4, b3 = a4 ++ b4 ∧ ctΦ a4 ∧ ∃ a5 b5, b4 = a5 ++ b5 ∧ i64Φ a5 ∧ ∃ a6 b6, b5 = a6 ++ b6 ∧ strΦ a6 ∧ ∃ a7 b7, b6 = a7 ++ b7 ∧ i64Φ a7 ∧ ∃ a8 b8, b7 = a8 ++ b8 ∧ ptΦ a8 ∧ b8 = []) :=
    Rd_struct Try.underlying27 (.cons rfl (Rd_str Try.underlying9) (.cons (by kernel_rfl) (Rd_str Try.underlying9) (.cons (by kernel_rfl) (Rd_i64 Try.underlying3) (.cons (by kernel_rfl) (Rd_bool Try.underlying4) (.cons (by kernel_rfl) rd_contacts24 (.cons (by kernel_rfl) (Rd_i64 Try.underlying3) (.cons (by kernel_rfl) (Rd_str Try.underlying9) (.cons (by kernel_rfl) (Rd_i64 Try.underlying3) (.cons (by kernel_rfl) rd_path25 h0)))))))))
  exact @Rd.mono _ _ _ _ h fun l ⟨a0, b0, e0, ⟨a, g0, aok⟩, a1, b1, e1, ⟨b, g1, bok⟩, a2, b2, e2, ⟨c, g2, cok⟩, a3, b3, e3, ⟨d, g3⟩, a4, b4, e4, ⟨e', g4⟩, a5, b5, e5, ⟨f, g5, fok⟩, a6, b6, e6, ⟨g, g6, gok⟩, a7, b7, e7, ⟨h', g7, h'ok⟩, a8, b8, e8, ⟨i, g8⟩, gn⟩ => ⟨⟨a, b, c, d, e', f, g, h', i⟩, by rw [e0, g0, e1, g1, e2, g2, e3, g3, e4, g4, e5, g5, e6, g6, e7, g7, e8, g8, gn]; rfl⟩
theorem rd_bytes32 : Rd Try.prog 32 fun l => ∃ b : List UInt8, l = [.islice (rowsU8 b)] ∧ b.length ≤ maxLen := Rd_bytes Try.underlying32 Try.underlying5 (by kernel_rfl)

set_option maxRecDepth 100000 in
theorem law_lifted' (os : Os) (started : os.Started) (H : Type) (enc : TypeId × Value → H) :
    ReturnsInHanded {} Try.checked os 4 .any (Rows.registrarActsSpec.pre6 enc Try.prog Try.f4 Rows.registrarActsRow.domain false) (Rows.registrarActsSpec.post enc Try.prog Try.f4 false true false false) := by
  refine law_read (C := Try.checked) (tb := 4) own' started (by kernel_rfl) Try.func4
    (ChangeSpec.witness6 (enc := enc) (C := Try.checked) false ⟨#[], #[.int .i64 0, .agg #[.string ByteArray.empty, .string ByteArray.empty, .int .i64 0, .bool false, .slice none 0 0, .int .i64 0, .string ByteArray.empty, .int .i64 0, .slice none 0 0], .slice none 0 0], []⟩ 8 (by kernel_rfl) (by kernel_rfl) (by kernel_rfl) (by kernel_rfl))
    laidOut' rfl rfl Try.underlying4 (params_of (by kernel_rfl)) (by intro ds h; match ds, h with | [_, _, _], _ => rfl)
    (.c (Rd_i64 Try.underlying3) Try.underlying3 (.c rd_reg27 Try.underlying27 (.c rd_bytes32 Try.underlying32 .nil))) ?_
  intro avs h
  obtain ⟨c0, t0, rfl, h0, h⟩ := h.c Try.underlying3
  obtain ⟨c1, t1, rfl, h1, h⟩ := h.c Try.underlying27
  obtain ⟨c2, t2, rfl, h2, h⟩ := h.c Try.underlying32
  have := h.n
  subst this
  obtain ⟨n, h0', hn⟩ := h0
  cases h0'
  obtain ⟨l, rfl, r, rfl⟩ := h1
  obtain ⟨b, h2', hb⟩ := h2
  cases h2'
  exact ⟨[], Ab.Try.S.law4 n r b (by unfold maxLen at hb; omega)⟩

theorem law_holds : Rows.RegistrarActsSaid :=
  OpenClaim.holds_of_wide 4 Try.f4 rfl rfl rfl rfl rfl rfl rfl ⟨rfl, rfl, rfl, rfl, rfl⟩ rfl rfl rfl rfl rfl (by kernel_rfl) Try.func4 (by kernel_rfl)
    (of_decide_eq_true (by kernel_rfl)) (by unfold Func.isWrapper; first | (rw [if_pos (by decide +kernel)]; kernel_rfl) | (rw [if_neg (by decide +kernel)]; exact ⟨rfl, rfl⟩))
    (fun os started H enc _ => law_lifted' os started H enc)
end Go.Proofs.Ytomakhllonkpiaa
