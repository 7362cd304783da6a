/- The loop of JournalBits that seeks the damaged record. Conditions: none. -/
import Derived.Test.YthpmmdlhoaonaaaJ20Burst2
import Derived.Test.YthpmmdlhoaonaaaJ20FnW3
import Derived.Test.YthpmmdlhoaonaaaJ20Lives
import Derived.Test.YthpmmdlhoaonaaaJ20Law4
namespace Go.Ab.Try.S
open Go.Proofs

theorem bits_loop {l2 : List Rcd} {b : List UInt8} {at' p : Nat} {K : Ex → Env → Heap → Prop} (d1 : (at' : Int).tdiv 8 = p) (wp : wrp .i64 (p : Int) = p) (hpl : p < endB l2 l2.length) (hl : l2.length ≤ 20)
    (hk : ∀ k, k < l2.length → endB l2 k ≤ p → p < endB l2 (k + 1) → ∀ x, K (.exit 0) [(0, .islice (recRows l2)), (6, .islice (rowsI64 (endsF 0 l2))), (8, .int .i64 at'), (9, .islice (rowsU8 b)), (10, .int .i64 k), (59, x)] []) :
    wpC (Spec Try.prog) [] (MCode.loop [0, 6, 8, 9, 10] W.m5l15) [(0, .islice (recRows l2)), (6, .islice (rowsI64 (endsF 0 l2))), (8, .int .i64 at'), (9, .islice (rowsU8 b)), (10, .int .i64 0)] [] K := by
  have hel := endsF_len l2 0
  refine vc_loop (fun m σ H => ∃ j : Nat, m = l2.length - j ∧ j ≤ l2.length ∧ endB l2 j ≤ p ∧ H = [] ∧
    σ = [(0, .islice (recRows l2)), (6, .islice (rowsI64 (endsF 0 l2))), (8, .int .i64 at'), (9, .islice (rowsU8 b)), (10, .int .i64 j)]) l2.length
    ⟨0, by omega, by omega, by simp [endB, jrnB, jrnF], rfl, rfl⟩ ?_
  rintro m σ H ⟨j, rfl, hj, he, rfl, rfl⟩
  have hlt : j < l2.length := by
    refine Nat.lt_of_le_of_ne hj fun h => ?_
    rw [h] at he; omega
  have ha := ends_at hlt
  have hl3 : (j : Int) < l2.length := by omega
  have hjr : j < (rowsI64 (endsF 0 l2)).length := by rw [rowsI64_len, hel]; exact hlt
  have ha' : (rowsI64 (endsF 0 l2))[j]'hjr = [.int .i64 (endB l2 (j + 1) : Nat)] := by
    rw [List.getElem?_eq_getElem hjr] at ha
    exact Option.some.inj ha
  have z1 : wrp .i64 ((j : Int) + 1) = j + 1 := wrp_i64 (by omega)
  simp [W.m5l15, W.m5r13, W.m5r14, hel, hlt, hl3, iaddr_is, ha', d1, wp, z1]
  exact ⟨fun h => ⟨l2.length - (j + 1), by omega, j + 1, rfl, by omega, by omega, by omega⟩, fun h => hk j hlt he (by omega) _⟩
end Go.Ab.Try.S

/- The end of JournalBits. Conditions: none. -/
namespace Go.Ab.Try.S
open Go.Proofs

theorem bits_end {l2 : List Rcd} {k : Nat} {e : Nat} {Q : Ex → Env → Heap → Prop} {σ : Env} (he : e = 5 ∨ e = 11) (hkl : k ≤ l2.length) (hlt : (l2.take k).length < 9223372036854775807)
    (g0 : σ.get 0 = .islice (recRows l2)) (g10 : σ.get 10 = .int .i64 k) (g11 : σ.get 11 = .islice (recRows (l2.take k))) (g12 : σ.get 12 = .int .i64 (endB l2 k : Nat)) (g13 : σ.get 13 = .int .u8 e) (g14 : σ.get 14 = .int .i64 (endB l2 k : Nat)) (hQ : Q .normal [(4, .bool true)] []) :
    wpC (Spec Try.prog) [] (.region W.m5r20 [4]) σ [] Q := by
  have hrt : (recRows l2).take k = recRows (l2.take k) := by simp [recRows, List.map_take]
  simp [W.m5r20, hkl, hrt, g0, g10, g11, g12, g13, g14]
  refine ⟨recRows_row l2, ?_⟩
  refine vc_call ((same19 (l2.take k) (l2.take k) hlt).frame (Cls.cons (cl_plain (recRows_plain _)) (Cls.cons (cl_plain (recRows_plain _)) .nil)) .bool _) ?_
  rcases he with rfl | rfl
  · simp [g13]
    refine vc_call (lives11 _) ?_
    simp
    exact hQ
  · simp [g13]
    refine vc_call (lives11 _) ?_
    simp
    exact hQ

def m5end : MCode := .seq (.seq (.region W.m5r18 [0, 6, 10, 11, 12, 13, 14, 69])
  (.cond (.tmp 69)
  (.region W.m5r19 [0, 10, 11, 12, 13, 14])
  .skip))
  (.seq (.region W.m5r20 [4])
  .ret)

theorem bits_pick {l2 : List Rcd} {k : Nat} {e : Nat} {Q : Ex → Env → Heap → Prop} (he : e = 5 ∨ e = 11) (hkl : k ≤ l2.length) (hl : l2.length ≤ 20) (hQ : Q .ret [(4, .bool true)] []) :
    wpC (Spec Try.prog) [] m5end [(0, .islice (recRows l2)), (6, .islice (rowsI64 (endsF 0 l2))), (10, .int .i64 k), (11, .islice (recRows (l2.take k))), (12, .int .i64 (endB l2 k : Nat)), (13, .int .u8 e), (14, .int .i64 0)] [] Q := by
  have hel := endsF_len l2 0
  have hlt : (l2.take k).length < 9223372036854775807 := by rw [List.length_take]; omega
  rw [m5end, wpC_seq, wpC_seq]
  rw [wpC_region]
  simp only [W.m5r18, wpOps_n, wpOps_nil, wpOp_mv, putK_eq, ev_tmp, get_cons, put_some, if_true, wpOp_bin, bin_gtr, ev_lit, W_some, regK_eq, keep_cons, keep_nil, seqK_n, wpC_cond, condK_bool, if_false, Nat.reduceEqDiff]
  refine ⟨fun h0 => ?_, fun h0 => ?_⟩
  · have h0 : 0 < k := by simpa using h0
    obtain ⟨j, rfl⟩ : ∃ j, k = j + 1 := ⟨k - 1, by omega⟩
    have hjr : j < (rowsI64 (endsF 0 l2)).length := by rw [rowsI64_len, hel]; omega
    have z1 : wrp .i64 (j : Int) = j := wrp_i64 (by omega)
    have hl3 : (j : Int) < l2.length := by omega
    rw [wpC_region]
    simp [W.m5r19, z1, hel, hl3, iaddr_is, ends_at (l := l2) (j := j) (by omega), -wpC_region]
    exact bits_end he hkl hlt rfl rfl rfl rfl rfl rfl (by simpa using hQ)
  · have h0 : k = 0 := by simpa using h0
    have e0 : endB l2 k = 0 := by rw [h0]; simp [endB, jrnB, jrnF]
    rw [wpC_skip, seqK_n, wpC_seq]
    exact bits_end he hkl hlt rfl rfl rfl rfl rfl (by simp [e0]) (by simpa using hQ)
end Go.Ab.Try.S
