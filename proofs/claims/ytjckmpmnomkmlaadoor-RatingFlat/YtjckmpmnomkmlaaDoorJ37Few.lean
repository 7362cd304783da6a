/- The bounds of the statements; their examples. Conditions: none. -/
import Derived.Test.YtjckmpmnomkmlaaDoorJ37Plain
import Derived.Test.YtjckmpmnomkmlaaDoorJ37FnL
namespace Go.Ab.Tryd.S
open Go.Proofs

def smB (r : Rt) : Bool := decide (r.ps.length ≤ 40) && decide (r.pre.length ≤ 100)
def fewB (t : Tf) : Bool := decide (t.rs.length ≤ 1100) && t.rs.all smB
theorem few_sm {t : Tf} (h : fewB t = true) : Sm t where
  n := by
    unfold fewB at h
    simp only [Bool.and_eq_true, decide_eq_true_eq] at h
    exact h.1
  r r hr := by
    unfold fewB at h
    simp only [Bool.and_eq_true, List.all_eq_true] at h
    have := h.2 r hr
    unfold smB at this
    simp only [Bool.and_eq_true, decide_eq_true_eq] at this
    omega

def F10 (t : Tf) (m : Nat) (σ : Env) (H : Heap) : Prop := ∃ k : Nat, m = t.rs.length - k ∧ k ≤ t.rs.length ∧ (t.rs.take k).all smB = true ∧ H = [.rows 0 2 [t.row]] ∧ σ = [(1, .ptr 0 0 0 0), (3, .int .i64 k)]
theorem few10 (t : Tf) : Spec Tryd.prog 10 [.agg t.row] [] (.bool (fewB t)) [] := by
  refine spec_of_wp (C := Spec Tryd.prog) (fun _ _ _ _ _ h => h) mixed m10_ok (show 1 ≤ _ by decide) ?_
  unfold m10
  have fin : ∀ {x : Bool} {H : Heap}, x = fewB t → Fin [] (.bool x) H (.bool (fewB t)) [] := fun h => fin_bool h
  obtain ⟨v, hv⟩ : ∃ v, v = fewB t := ⟨_, rfl⟩
  rw [← hv] at fin ⊢
  unfold fewB at hv
  simp [m10r0, m10r1, envOf, Tf.row]
  refine ⟨fun h => ?_, fun h => ?_⟩
  · simp [m10r2]
    exact fin (by rw [hv, decide_eq_false (by omega)]; rfl)
  have h' : t.rs.length ≤ 1100 := by omega
  rw [decide_eq_true h', Bool.true_and] at hv
  simp [m10r3]
  refine vc_loop (F10 t) t.rs.length ⟨0, rfl, by omega, by simp, rfl, rfl⟩ ?_
  rintro m σ H ⟨k, rfl, hk, hall, rfl, rfl⟩
  by_cases hlt : k < t.rs.length
  · have hlt2 : (k : Int) < t.rs.length := by omega
    have z : FI (wrp .i64 ((k : Int) + 1)) (k + 1) := fi64 (by omega)
    obtain ⟨r, hr⟩ : ∃ r, r = t.rs[k] := ⟨_, rfl⟩
    simp [m10l8, m10r4, hlt, hlt2, Nat.not_le.2 hlt, Tf.row]
    simp +contextual [m10r5, hlt, hlt2, iaddr_is, ← hr, Rt.row, -condK_bool]
    refine condK_of (y := !smB r) ?_ (fun h => ?_) (fun h => ?_)
    · unfold smB
      generalize r.ps.length = a
      generalize r.pre.length = b
      rw [Bool.eq_iff_iff]
      simp
      omega
    · simp [m10r6]
      exact fin (by rw [hv, not_all hlt (by rw [← hr]; simpa using h)])
    · simp [m10r7, z.o]
      exact ⟨_, Nat.sub_succ_lt_self _ _ hlt, k + 1, rfl, hlt, take_all hlt hall (by rw [← hr]; simpa using h), rfl, rfl⟩
  · have hk2 : k = t.rs.length := by omega
    subst hk2
    rw [List.take_length] at hall
    simp [m10l8, m10r4, m10r9, Tf.row]
    exact fin (by rw [hv, hall])

def RT0 : Rt := ⟨[52, 57], 500, 60, 10, [⟨31, 480, 1080, 1200, 200⟩, ⟨127, 0, 1440, 600, 100⟩]⟩
def TF0 : Tf := ⟨[RT0], 0⟩
theorem rt0_ok : RtOk RT0 := ⟨by
  intro p hp
  simp only [RT0, List.mem_cons, List.not_mem_nil, or_false] at hp
  rcases hp with rfl | rfl <;> exact ⟨by decide⟩, ⟨by decide, by decide⟩, ⟨by decide, by decide⟩, ⟨by decide, by decide⟩⟩
theorem tf0_ok : TfOk TF0 := ⟨by
  intro p hp
  simp only [TF0, List.mem_cons, List.not_mem_nil, or_false] at hp
  rw [hp]; exact rt0_ok, ⟨by decide, by decide⟩⟩
theorem tf0_sm : Sm TF0 := few_sm (by decide)

theorem rate22 (H : Heap) : Spec Tryd.prog 22 [] H (.agg RT0.row) H := by
  refine Spec.frame (H' := []) ?_ (fun i c h => by simp at h) (cl_rt _) H
  refine spec_of_wp (C := Spec Tryd.prog) (fun _ _ _ _ _ h => h) mixed m22_ok (show 0 ≤ _ by decide) ?_
  unfold m22
  simp [m22r0, m22r1, envOf]
  have hp : (prRows RT0.ps) = [[.int .u8 31, .int .i64 480, .int .i64 1080, .int .i64 1200, .int .i64 200], [.int .u8 127, .int .i64 0, .int .i64 1440, .int .i64 600, .int .i64 100]] := rfl
  refine fin_drop (CVs.agg (CVs.cons (.refl .str) (CVs.cons (.refl .int) (CVs.cons (.refl .int) (CVs.cons (.refl .int) (CVs.cons ?_ .nil))))))
  rw [hp]
  refine freeze_all (g := 0) (s := 5) rfl (by simp) rfl ?_ (by rw [← hp]; exact prRows_plain _)
  rw [← hp]
  exact prRows_row _

/-- A tariff with one rate in a slice of the caller's own. -/
theorem lend_tf {H : Heap} {k g : Nat} {r : Rt} {free : Int} (hb : H[k]? = some (.rows g 5 [r.row])) : Lend H (.agg [.slice k g 0 1, .int .i64 free]) (.agg (Tf.row ⟨[r], free⟩)) := by
  refine .agg rfl fun i c c' h1 h2 => ?_
  match i with
  | 0 =>
    simp [Tf.row] at h1 h2
    subst h1 h2
    refine .slice ?_ (fun i row j c h1 h2 => (rtRows_plain [r] row (List.mem_of_getElem? h1) c (List.mem_of_getElem? h2)).2)
    simp [rowsOf_of hb, rtRows]
  | 1 =>
    simp [Tf.row] at h1 h2
    subst h1 h2
    exact .pure .int
  | i + 2 => simp at h1
theorem lend_tf4 {H : Heap} {k g : Nat} {r : Rt} {free : Int} (hb : H[k]? = some (.rows g 5 [r.row])) (num : List UInt8) (a b : Int) : ∀ (i : Nat) c c', [AV.agg [.slice k g 0 1, .int .i64 free], .str num, .int .i64 a, .int .i64 b][i]? = some c → [AV.agg (Tf.row ⟨[r], free⟩), .str num, .int .i64 a, .int .i64 b][i]? = some c' → Lend H c c' := by
  intro i c c' h1 h2
  match i with
  | 0 => simp at h1 h2; subst h1 h2; exact lend_tf hb
  | 1 => simp at h1 h2; subst h1 h2; exact .pure .str
  | 2 => simp at h1 h2; subst h1 h2; exact .pure .int
  | 3 => simp at h1 h2; subst h1 h2; exact .pure .int
  | i + 4 => simp at h1
theorem lend_tf1 {H : Heap} {k g : Nat} {r : Rt} {free : Int} (hb : H[k]? = some (.rows g 5 [r.row])) : ∀ (i : Nat) c c', [AV.agg [.slice k g 0 1, .int .i64 free]][i]? = some c → [AV.agg (Tf.row ⟨[r], free⟩)][i]? = some c' → Lend H c c' := by
  intro i c c' h1 h2
  match i with
  | 0 => simp at h1 h2; subst h1 h2; exact lend_tf hb
  | i + 1 => simp at h1
theorem flat_cost (c : Int × Int) : Flat (costA c) := by
  refine .tup fun i c hc => ?_
  match i with
  | 0 => simp at hc; subst hc; exact .int
  | 1 => simp at hc; subst hc; exact .int
  | i + 2 => simp at hc

theorem v1 : costV TF0 [52, 57, 51, 48] 28800000 28865000 = (1900, 0) := by kernel_rfl
theorem v2 : costV TF0 [52, 57, 51, 48] 28770000 28835000 = (1300, 0) := by kernel_rfl
theorem v3 : costV TF0 [52, 51] 0 1 = (0, 8) := by kernel_rfl
theorem v4 : validB TF0 = true := by kernel_rfl
theorem v5 : secsF 500 1501 = 2 := by kernel_rfl

theorem lives11 (H : Heap) : Spec Tryd.prog 11 [] H (.bool true) H := by
  refine Spec.frame (H' := []) ?_ (fun i c h => by simp at h) .bool H
  refine spec_of_wp (C := Spec Tryd.prog) (fun _ _ _ _ _ h => h) mixed m11_ok (show 0 ≤ _ by decide) ?_
  unfold m11
  simp [m11r0, m11r1, envOf]
  refine vc_call (rate22 _) ?_
  simp
  simp [m11r2]
  refine vc_call ((cost12 TF0 tf0_ok tf0_sm [52, 57, 51, 48] 28800000 28865000).lend rfl (lend_tf4 rfl _ _ _) (flat_cost _)) ?_
  rw [v1]
  simp [costA, m11r3]
  refine vc_call ((cost12 TF0 tf0_ok tf0_sm [52, 57, 51, 48] 28770000 28835000).lend rfl (lend_tf4 rfl _ _ _) (flat_cost _)) ?_
  rw [v2]
  simp [costA, m11r4]
  refine vc_call ((cost12 TF0 tf0_ok tf0_sm [52, 51] 0 1).lend rfl (lend_tf4 rfl _ _ _) (flat_cost _)) ?_
  rw [v3]
  simp [costA, m11r5]
  refine vc_call ((valid24 TF0 tf0_sm).lend rfl (lend_tf1 rfl) .bool) ?_
  rw [v4]
  simp
  refine vc_call ((secs18 500 1501).frame (Cls.cons .int (Cls.cons .int .nil)) .int _) ?_
  rw [v5]
  simp
  exact fin_bool rfl
end Go.Ab.Tryd.S
