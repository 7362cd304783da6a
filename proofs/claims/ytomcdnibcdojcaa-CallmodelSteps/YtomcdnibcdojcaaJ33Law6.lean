/- CallmodelSteps, as a contract. Conditions: none. -/
import Derived.Test.YtomcdnibcdojcaaJ33Plain2
import Derived.Test.YtomcdnibcdojcaaJ33Live
namespace Go.Ab.Try.S
open Go.Proofs

theorem law6 (c : Ca) (e : Ev) : Spec Try.prog 6 [.agg c.row, .agg e.row] [] (.bool true) [] := by
  refine spec_of_wp (C := Spec Try.prog) (fun _ _ _ _ _ h => h) mixed m6_ok (show 2 ≤ _ by decide) ?_
  unfold m6
  have hap := apply9 c e
  unfold appV at hap
  simp [m6r0, envOf, m6r1]
  refine vc_call ((valid16 c).frame (Cls.cons (cl_ca _) .nil) .bool _) ?_
  simp
  refine ⟨fun hv => ?_, fun hv => ?_⟩
  · simp [m6r2]
    refine vc_call (live10 _) ?_
    simp
    exact fin_bool rfl
  have hc := (validR_iff c).1 hv
  have hno := fun h => apply_no (c := c) (e := e) h
  have hyes := fun h => apply_valid (c := c) (e := e) hc h
  obtain ⟨d, hd⟩ : ∃ d, d = (applyF c e).1 := ⟨_, rfl⟩
  obtain ⟨ok, hok⟩ : ∃ ok, ok = (applyF c e).2 := ⟨_, rfl⟩
  rw [← hd, ← hok] at hap hno hyes
  simp [m6r3]
  refine vc_call (hap.frame (Cls.cons (cl_ca _) (Cls.cons (cl_ev _) .nil)) (Cls.cons (cl_ca _) (Cls.cons .bool .nil)).tup _) ?_
  simp [m6r4]
  cases ok with
  | false =>
    rw [hno rfl]
    simp [m6r5, flat10]
    refine vc_call (live10 _) ?_
    simp
    exact fin_bool rfl
  | true =>
  obtain ⟨s1, s2, s3, s4, s5, s6⟩ := hyes rfl
  have hvd : validF d = true := (validF_iff d).2 (.inr s1)
  have e7 : ∀ x : Ca, x.row[7]? = some (.int .i64 x.ans) := fun _ => rfl
  have e5 : ∀ x : Ca, x.row[5]? = some (.int .i64 x.beg) := fun _ => rfl
  have e9 : ∀ x : Ca, x.row[9]? = some (.int .i64 x.tr) := fun _ => rfl
  have f4 : e.row[4]? = some (.int .i64 e.at_) := rfl
  have f1 : e.row[1]? = some (.str e.call) := rfl
  simp [m6r6]
  refine vc_call ((valid15 d).frame (Cls.cons (cl_ca _) .nil) .bool _) ?_
  have hl : ¬ d.last < c.last := by omega
  simp [hvd, row_at6, f4, f1, row_at0, s2, s3]
  have hl' : c.last ≤ e.at_ := by omega
  have hl2 : ¬ e.at_ < c.last := by omega
  simp [hl', hl2, m6r8, row_at1]
  refine ⟨fun h0 => ?_, fun h0 => ?_⟩
  · simp [m6r9, e7, s5 h0]
    refine vc_call (live10 _) ?_
    simp
    exact fin_bool rfl
  · obtain ⟨t1, t2, t3⟩ := s6 h0
    by_cases ha : d.ans = c.ans
    · simp [m6r10, e7, e5, e9, ha, t2, t3]
      refine vc_call (live10 _) ?_
      simp
      exact fin_bool rfl
    · have ht : c.ans = -1 ∧ d.ans = e.at_ := by rcases t1 with h | h; exact absurd h ha; exact h
      have ha2 : ¬ e.at_ = -1 := by rw [← ht.1, ← ht.2]; exact ha
      simp [m6r10, e7, e5, e9, f4, ht.1, ht.2, ha2, t2, t3]
      refine vc_call (live10 _) ?_
      simp
      exact fin_bool rfl
end Go.Ab.Try.S
