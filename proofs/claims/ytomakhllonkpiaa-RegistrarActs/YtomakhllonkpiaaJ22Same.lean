/- SameAct of a registration and itself. Conditions: none. -/
import Derived.Test.YtomakhllonkpiaaJ22Plain3
namespace Go.Ab.Try.S
open Go.Proofs

theorem strs43 (l : List (List UInt8)) (hl : l.length ≤ 100000) : Spec Try.prog 43 [.islice (ptRows l), .islice (ptRows l)] [] (.bool true) [] := by
  refine spec_of_wp (C := Spec Try.prog) (fun _ _ _ _ _ h => h) mixed m43_ok (show 2 ≤ _ by decide) ?_
  unfold m43
  simp [m43r0, m43r1, envOf, m43r3]
  refine vc_loop (fun m σ H => ∃ k : Nat, m = l.length - k ∧ k ≤ l.length ∧ H = [] ∧ σ = [(0, .islice (ptRows l)), (1, .islice (ptRows l)), (5, .int .i64 k)]) l.length ⟨0, rfl, by omega, rfl, rfl⟩ ?_
  rintro m σ H ⟨k, rfl, hk, rfl, rfl⟩
  by_cases hlt : k < l.length
  · have hlt2 : (k : Int) < l.length := by omega
    have zi : FI (wrp .i64 ((k : Int) + 1)) (k + 1) := fi64 (by omega)
    simp [m43l9, m43r4, m43r5, m43r6, m43r8, hlt, hlt2, iaddr_is, zi.o]
    exact ⟨_, Nat.sub_succ_lt_self _ _ hlt, k + 1, rfl, hlt, rfl⟩
  · have hk2 : k = l.length := by omega
    subst hk2
    simp [m43l9, m43r4, m43r10]
    exact fin_bool rfl
theorem strs43z : Spec Try.prog 43 [.nils, .nils] [] (.bool true) [] := by
  refine spec_of_wp (C := Spec Try.prog) (fun _ _ _ _ _ h => h) mixed m43_ok (show 2 ≤ _ by decide) ?_
  unfold m43
  simp [m43r0, m43r1, envOf, m43r3]
  refine vc_loop (fun m σ H => H = [] ∧ σ = [(0, .nils), (1, .nils), (5, .int .i64 0)]) 0 ⟨rfl, rfl⟩ ?_
  rintro m σ H ⟨rfl, rfl⟩
  simp [m43l9, m43r4, m43r10]
  exact fin_bool rfl
theorem ct_eq (c : Ct) : binAV .neq (.flat [2, 0, 0]) (.agg c.row) (.agg c.row) = some (.bool false) := by
  simp [binAV, eqAV, cellsEq, cellEq, Ct.row]
theorem same17 (r : Rg) (hc : r.cs.length ≤ 100000) (hp : r.path.length ≤ 100000) : Spec Try.prog 17 [.agg r.row, .agg r.row] [] (.bool true) [] := by
  refine spec_of_wp (C := Spec Try.prog) (fun _ _ _ _ _ h => h) mixed m17_ok (show 2 ≤ _ by decide) ?_
  unfold m17
  simp [m17r0, m17r1, envOf]
  refine vc_call ((strs43 r.path hp).frame (Cls.cons (cl_plain (ptRows_plain _)) (Cls.cons (cl_plain (ptRows_plain _)) .nil)) .bool _) ?_
  simp [m17r3]
  refine vc_loop (fun m σ H => ∃ k : Nat, m = r.cs.length - k ∧ k ≤ r.cs.length ∧ H = [.rows 0 9 [r.row], .rows 0 9 [r.row]] ∧ σ = [(2, .ptr 0 0 0 0), (3, .ptr 1 0 0 0), (5, .int .i64 k)]) r.cs.length ⟨0, rfl, by omega, rfl, rfl⟩ ?_
  rintro m σ H ⟨k, rfl, hk, rfl, rfl⟩
  by_cases hlt : k < r.cs.length
  · have hlt2 : (k : Int) < r.cs.length := by omega
    have zi : FI (wrp .i64 ((k : Int) + 1)) (k + 1) := fi64 (by omega)
    simp [m17l9, m17r4, m17r5, m17r6, m17r8, hlt, hlt2, iaddr_is, zi.o]
    rw [show binAV .neq (.flat [2, 0, 0]) (.agg r.cs[k].row) (.agg r.cs[k].row) = some (.bool false) from ct_eq _]
    simp
    exact ⟨_, Nat.sub_succ_lt_self _ _ hlt, k + 1, rfl, hlt, rfl⟩
  · have hk2 : k = r.cs.length := by omega
    subst hk2
    simp [m17l9, m17r4, m17r10]
    exact fin_bool rfl
end Go.Ab.Try.S
