/- Same, Recover. Conditions: none. -/
import Derived.Test.YthpmmdlhoaonaaaJ20Scan2
namespace Go.Ab.Try.S
open Go.Proofs

theorem scanF_rest : ∀ (f : Nat) (b : List UInt8) (n : Nat), (scanF f b n).2.1.length ≤ b.length
  | 0, b, n => by simp [scanF]
  | f + 1, b, n => by
    unfold scanF
    split
    · simp
    · split
      · simp
      · rename_i d _
        have := scanF_rest f (b.drop (14 + d.length)) (n + 1)
        simp only [List.length_drop] at this ⊢
        exact Nat.le_trans this (by omega)

def recovV (b : List UInt8) : AV := .tup [.agg (logV (b.take (b.length - (scanB b).2.1.length)) ((b.length - (scanB b).2.1.length : Nat) : Int) ((scanB b).1.length : Nat)), .islice (recRows (scanB b).1)]

theorem cl_scanV (b : List UInt8) : Cl 0 (scanV b) := (Cls.cons (cl_plain (recRows_plain _)) (Cls.cons .int (Cls.cons .int .nil))).tup
theorem cl_recovV (b : List UInt8) : Cl 0 (recovV b) := (Cls.cons (cl_log _ _ _) (Cls.cons (cl_plain (recRows_plain _)) .nil)).tup

theorem rec_at {l : List Rcd} {j : Nat} (h : j < l.length) : (recRows l)[j]? = some (recV l[j].1 l[j].2) := by simp [recRows, h]

theorem rec_get {l : List Rcd} {j : Nat} (h : j < (recRows l).length) : (recRows l)[j] = recV (l[j]'(by simpa using h)).1 (l[j]'(by simpa using h)).2 := by simp [recRows]

theorem same19 (l l' : List Rcd) (hl : l.length < 9223372036854775807) : Spec Try.prog 19 [.islice (recRows l), .islice (recRows l')] [] (.bool (decide (l = l'))) [] := by
  refine spec_of_wp (C := Spec Try.prog) (fun _ _ _ _ _ h => h) mixed m19_ok (show 2 ≤ _ by decide) ?_
  unfold m19
  simp [m19r0, m19r1, envOf, m19r2, m19r3]
  refine ⟨fun h => fin_bool ?_, fun h => ?_⟩
  · symm; rw [decide_eq_false_iff_not]; intro e; subst e; exact h rfl
  have h' : l.length = l'.length := by omega
  refine vc_loop (fun m σ H => ∃ j : Nat, m = l.length - j ∧ j ≤ l.length ∧ (∀ i, i < j → l[i]? = l'[i]?) ∧ H = [] ∧ σ = [(0, .islice (recRows l)), (1, .islice (recRows l')), (5, .int .i64 j)]) l.length
    ⟨0, by omega, by omega, by omega, rfl, rfl⟩ ?_
  rintro m σ H ⟨j, rfl, hj, heq, rfl, rfl⟩
  simp [m19l9, m19r4, m19r10]
  refine ⟨fun hlt => ?_, fun hge => ?_⟩
  · have hj' : j < l.length := by omega
    have hj2 : j < l'.length := by omega
    have b1 := rec_at hj'
    have b2 := rec_at hj2
    have z1 : wrp .i64 ((j : Int) + 1) = j + 1 := wrp_i64 (by omega)
    have l1 : (j : Int) < l'.length := by omega
    simp +contextual (disch := first | trivial | assumption | omega | (simp +contextual; done) | (simp +contextual; omega)) [m19r5, m19r6, m19r7, m19r8, iaddr_is, rec_get, l1, hlt, recV, bytesOf_rowsU8, z1]
    refine ⟨fun hne => fin_bool ?_, fun q1 q2 => ⟨l.length - (j + 1), by omega, j + 1, rfl, by omega, fun i hi => ?_, by omega⟩⟩
    · symm; rw [decide_eq_false_iff_not]; intro e; subst e; simp at hne
    · by_cases hij : i < j
      · exact heq i hij
      · have : i = j := by omega
        subst this
        rw [List.getElem?_eq_getElem hj', List.getElem?_eq_getElem hj2]
        exact congrArg some (Prod.ext (u8_eq (by omega)) q2)
  · refine fin_bool ?_
    symm; rw [decide_eq_true_iff]
    apply List.ext_getElem? 
    intro i
    by_cases hi : i < l.length
    · exact heq i (by omega)
    · rw [List.getElem?_eq_none (by omega), List.getElem?_eq_none (by omega)]

theorem acc_cell {x : ABlk} {c : AV} {N : Heap} {b : List UInt8} (h : Acc1 [x] 1 (rowsU8 b) c (x :: N)) : c.cells = [c] ∧ okRow [c] = true ∧ c.sc = true ∧ ∀ y, CV 0 (y :: N) [] c (.islice (rowsU8 b)) := by
  rcases h with ⟨h5, rfl, h6⟩ | ⟨g, rfl, h6⟩
  · rw [h5]; exact ⟨rfl, rfl, rfl, fun _ => .nil0⟩
  · simp only [List.cons_append, List.nil_append, List.cons.injEq, true_and] at h6
    subst h6
    exact ⟨rfl, rfl, rfl, fun _ => freeze_all rfl (by simp) rfl (rowsU8_row _) (rowsU8_plain _)⟩

theorem recover21 (b : List UInt8) (hb : b.length ≤ 1000000000) : Spec Try.prog 21 [.islice (rowsU8 b)] [] (recovV b) [] := by
  refine spec_of_wp (C := Spec Try.prog) (fun _ _ _ _ _ h => h) mixed m21_ok (show 1 ≤ _ by decide) ?_
  unfold m21
  simp [m21r0, m21r1, envOf]
  refine vc_call ((scan18 b (by omega)).frame (Cls.cons (cl_plain (rowsU8_plain b)) .nil) (cl_scanV b) _) ?_
  have hr := scanF_rest b.length b 0
  obtain ⟨at', hat⟩ : ∃ x, x = b.length - (scanB b).2.1.length := ⟨_, rfl⟩
  have e1 : (b.length : Int) - ((scanB b).2.1.length : Nat) = at' := by have : (scanB b).2.1.length ≤ b.length := hr; omega
  have hle : at' ≤ b.length := by omega
  simp only [scanV, e1, recovV, ← hat]
  simp [m21r2, hle, rowsU8_take]
  refine ⟨rowsU8_row b, ?_⟩
  refine W_app_nil (b := b.take at') rfl (by simp [roomB]; omega) fun c H' hacc => ?_
  obtain ⟨N, rfl⟩ := hacc.grown
  simp only [List.cons_append, List.nil_append] at hacc
  obtain ⟨hc1, hc2, hc3, hc4⟩ := acc_cell hacc
  simp [hc1, hc2, hc3]
  exact fin_drop (CVs.cons (CVs.cons (hc4 _) (CVs.cons (.refl .int) (CVs.cons (.refl .int) .nil))).agg (CVs.cons (.refl (cl_plain (recRows_plain _))) .nil)).tup

theorem rrecover22 (b : List UInt8) (hb : b.length ≤ 1000000000) : Spec Try.prog 22 [.islice (rowsU8 b)] [] (recovV b) [] := by
  refine spec_of_wp (C := Spec Try.prog) (fun _ _ _ _ _ h => h) mixed m22_ok (show 1 ≤ _ by decide) ?_
  unfold m22
  simp [m22r0, m22r1, envOf]
  refine vc_call ((rscan20 b (by omega)).frame (Cls.cons (cl_plain (rowsU8_plain b)) .nil) (cl_scanV b) _) ?_
  have hr := scanF_rest b.length b 0
  obtain ⟨at', hat⟩ : ∃ x, x = b.length - (scanB b).2.1.length := ⟨_, rfl⟩
  have e1 : (b.length : Int) - ((scanB b).2.1.length : Nat) = at' := by have : (scanB b).2.1.length ≤ b.length := hr; omega
  have hle : at' ≤ b.length := by omega
  simp only [scanV, e1, recovV, ← hat]
  simp [m22r2, hle, rowsU8_take]
  refine ⟨rowsU8_row b, ?_⟩
  obtain ⟨c, H', hacc, hsp⟩ := copied36o (b.take at') (by simp [roomB]; omega) [.rows 0 3 [[.nils, .int .i64 0, .int .i64 0]]]
  refine vc_call hsp ?_
  obtain ⟨N, rfl⟩ := hacc.grown
  simp only [List.cons_append, List.nil_append] at hacc
  obtain ⟨hc1, hc2, hc3, hc4⟩ := acc_cell hacc
  simp [hc1, hc2, hc3]
  exact fin_drop (CVs.cons (CVs.cons (hc4 _) (CVs.cons (.refl .int) (CVs.cons (.refl .int) .nil))).agg (CVs.cons (.refl (cl_plain (recRows_plain _))) .nil)).tup
end Go.Ab.Try.S
