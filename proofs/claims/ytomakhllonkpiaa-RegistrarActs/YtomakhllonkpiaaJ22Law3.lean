/- RegistrarForms, as a contract. Conditions: none. -/
import Derived.Test.YtomakhllonkpiaaJ22Formed2
import Derived.Test.YtomakhllonkpiaaJ22Lives
namespace Go.Ab.Try.S
open Go.Proofs

def smC (c : Ct) : Bool := !decide (2000 < c.uri.length)
def smP (s : List UInt8) : Bool := !decide (2000 < s.length)
def fewB (r : Rg) : Bool := !(decide (30 < r.cs.length) || decide (30 < r.path.length) || decide (2000 < r.aor.length) || decide (2000 < r.cid.length) || decide (2000 < r.inst.length)) && (r.cs.all smC && r.path.all smP)
def F7 (r : Rg) (m : Nat) (σ : Env) (H : Heap) : Prop := ∃ k : Nat, m = r.cs.length - k ∧ k ≤ r.cs.length ∧ (r.cs.take k).all smC = true ∧ H = [.rows 0 9 [r.row]] ∧ σ = [(1, .ptr 0 0 0 0), (3, .int .i64 k)]
def G7 (r : Rg) (m : Nat) (σ : Env) (H : Heap) : Prop := ∃ k : Nat, m = r.path.length - k ∧ k ≤ r.path.length ∧ (r.path.take k).all smP = true ∧ H = [.rows 0 9 [r.row]] ∧ σ = [(1, .ptr 0 0 0 0), (4, .int .i64 k)]
theorem few7 (r : Rg) : Spec Try.prog 7 [.agg r.row] [] (.bool (fewB r)) [] := by
  refine spec_of_wp (C := Spec Try.prog) (fun _ _ _ _ _ h => h) mixed m7_ok (show 1 ≤ _ by decide) ?_
  unfold m7
  have fin : ∀ {x : Bool} {H : Heap}, x = fewB r → Fin [] (.bool x) H (.bool (fewB r)) [] := fun h => fin_bool h
  obtain ⟨v, hv⟩ : ∃ v, v = fewB r := ⟨_, rfl⟩
  rw [← hv] at fin ⊢
  unfold fewB at hv
  simp [m7r0, envOf]
  simp +contextual [m7r1, Rg.row, -condK_bool]
  refine condK_of (y := decide (30 < r.cs.length) || decide (30 < r.path.length) || decide (2000 < r.aor.length) || decide (2000 < r.cid.length) || decide (2000 < r.inst.length)) (by rw [Bool.eq_iff_iff]; simp; omega) (fun h => ?_) (fun h1 => ?_)
  · simp [m7r2]
    exact fin (by rw [hv, h]; rfl)
  rw [h1] at hv
  have hlc : r.cs.length ≤ 30 ∧ r.path.length ≤ 30 := by
    simp only [Bool.or_eq_false_iff, decide_eq_false_iff_not] at h1
    omega
  simp [m7r3]
  refine vc_loop (F7 r) r.cs.length ⟨0, rfl, by omega, by simp, rfl, rfl⟩ ?_
  rintro m σ H ⟨k, rfl, hk, hall, rfl, rfl⟩
  by_cases hlt : k < r.cs.length
  · have hlt2 : (k : Int) < r.cs.length := by omega
    have z : FI (wrp .i64 ((k : Int) + 1)) (k + 1) := fi64 (by omega)
    have e0 : (r.cs[k]).row[0]? = some (.str r.cs[k].uri) := rfl
    simp [m7l8, m7r4, hlt, hlt2, Rg.row, m7r5, iaddr_is, Ct.row]
    refine ⟨fun h => ?_, fun h => ?_⟩
    · simp [m7r6]
      exact fin (by rw [hv, not_all hlt (by simp [smC]; omega)]; simp)
    · simp [m7r7, z.o]
      exact ⟨_, Nat.sub_succ_lt_self _ _ hlt, k + 1, rfl, hlt, take_all hlt hall (by simp [smC]; omega), rfl, rfl⟩
  have hk2 : k = r.cs.length := by omega
  subst hk2
  rw [List.take_length] at hall
  simp [m7l8, m7r4, Rg.row, m7r9]
  refine vc_loop (G7 r) r.path.length ⟨0, rfl, by omega, by simp, rfl, rfl⟩ ?_
  rintro m σ H ⟨k, rfl, hk, hall2, rfl, rfl⟩
  by_cases hlt : k < r.path.length
  · have hlt2 : (k : Int) < r.path.length := by omega
    have z : FI (wrp .i64 ((k : Int) + 1)) (k + 1) := fi64 (by omega)
    simp [m7l14, m7r10, hlt, hlt2, Rg.row, m7r11, iaddr_is]
    refine ⟨fun h => ?_, fun h => ?_⟩
    · simp [m7r12]
      exact fin (by rw [hv, not_all hlt (by simp [smP]; omega)]; simp)
    · simp [m7r13, z.o]
      exact ⟨_, Nat.sub_succ_lt_self _ _ hlt, k + 1, rfl, hlt, take_all hlt hall2 (by simp [smP]; omega), rfl, rfl⟩
  have hk2 : k = r.path.length := by omega
  subst hk2
  rw [List.take_length] at hall2
  simp [m7l14, m7r10, Rg.row, m7r15]
  exact fin (by rw [hv, hall, hall2]; rfl)
theorem few_len {r : Rg} (h : fewB r = true) : r.cs.length ≤ 30 ∧ r.path.length ≤ 30 ∧ r.aor.length ≤ 2000 ∧ r.cid.length ≤ 2000 ∧ r.inst.length ≤ 2000 := by
  unfold fewB at h
  simp only [Bool.and_eq_true, Bool.not_eq_true', Bool.or_eq_false_iff, decide_eq_false_iff_not] at h
  omega

theorem law3 (c : Cf) (r : Rg) : Spec Try.prog 3 [.agg c.row, .agg r.row] [] (.bool true) [] := by
  refine spec_of_wp (C := Spec Try.prog) (fun _ _ _ _ _ h => h) mixed m3_ok (show 2 ≤ _ by decide) ?_
  unfold m3
  simp [m3r0, envOf, m3r1]
  refine vc_call ((few7 r).frame (Cls.cons (cl_rg _) .nil) .bool _) ?_
  simp
  refine ⟨fun h => ?_, fun h => ?_⟩
  · simp [m3r2]
    refine vc_call (lives8 _) ?_
    simp
    exact fin_bool rfl
  have hs := few_len h
  simp [m3r3]
  refine vc_call ((valid9 c).frame (Cls.cons (cl_cf _) .nil) .bool _) ?_
  simp
  refine vc_call ((valid10 c).frame (Cls.cons (cl_cf _) .nil) .bool _) ?_
  simp
  refine vc_call ((formed11 r (by omega) (by omega)).frame (Cls.cons (cl_rg _) .nil) .bool _) ?_
  simp [m3r4]
  refine vc_call ((formed12 r (by omega) (by omega)).frame (Cls.cons (cl_rg _) .nil) .bool _) ?_
  simp
  refine vc_call (lives8 _) ?_
  simp
  exact fin_bool rfl
end Go.Ab.Try.S
