/- JournalCuts: the law's function returns true. Conditions: none. -/
import Derived.Test.YthpmmdlhoaonaaaJ20Byte
import Derived.Test.YthpmmdlhoaonaaaJ20FnL
import Derived.Test.YthpmmdlhoaonaaaJ20Lives
namespace Go.Ab.Try.S
open Go.Proofs

theorem endsF_get : ∀ (l : List Rcd) (a n j : Nat) (h : j < l.length), (endsF a l)[j]? = some (a + (jrnF n (l.take (j + 1))).length)
  | [], a, n, j, h => by simp at h
  | x :: t, a, n, 0, h => by simp [endsF, jrnF, enc_len]; omega
  | x :: t, a, n, j + 1, h => by
    have := endsF_get t (a + 14 + x.2.length) (n + 1) j (by simpa using h)
    simp only [endsF, List.getElem?_cons_succ, this, List.take_succ_cons, jrnF, List.length_append, enc_len]
    congr 1
    omega

def endB (l : List Rcd) (j : Nat) : Nat := (jrnB (l.take j)).length
theorem endB_succ {l : List Rcd} {j : Nat} (h : j < l.length) : endB l (j + 1) = endB l j + 14 + l[j].2.length := by
  unfold endB jrnB
  rw [List.take_succ_eq_append_getElem h, jrnF_app, List.length_append, enc_len]
  omega
theorem endB_mono {l : List Rcd} : ∀ {i j : Nat}, i ≤ j → j ≤ l.length → endB l i ≤ endB l j := by
  intro i j hij hj
  induction j with
  | zero => have : i = 0 := by omega
            subst this; exact Nat.le_refl _
  | succ j ih =>
    by_cases h : i = j + 1
    · subst h; exact Nat.le_refl _
    · have := ih (by omega) (by omega)
      rw [endB_succ (by omega : j < l.length)]
      omega
theorem ends_at {l : List Rcd} {j : Nat} (h : j < l.length) : (rowsI64 (endsF 0 l))[j]? = some [.int .i64 (endB l (j + 1) : Nat)] := by
  unfold rowsI64
  rw [List.getElem?_map, endsF_get l 0 0 j h]
  simp [endB, jrnB]

/-- What is read of the first s bytes, where j records lie wholly in them. -/
theorem scan_at {l : List Rcd} {s j : Nat} (hl : l.length ≤ 20) (hd : ∀ r ∈ l, r.2.length ≤ 200) (hs : s ≤ (jrnB l).length) (hj : j ≤ l.length) (h1 : endB l j ≤ s) (h2 : j < l.length → s < endB l (j + 1)) :
    scanV ((jrnB l).take s) = .tup [.islice (recRows (l.take j)), .int .i64 (endB l j : Nat), .int .u8 ((if s = endB l j then 0 else 6 : Nat) : Int)] := by
  have hlen : ((jrnB l).take s).length = s := by rw [List.length_take]; omega
  obtain ⟨m, m1, m2, m3, m4, m5, m6⟩ := scan_cut l 0 s s (fun r hr => Nat.le_trans (hd r hr) (by omega)) (by omega) hs (Nat.le_refl _)
  have hm : m = j := by
    have e : ∀ m, (jrnF 0 (l.take m)).length = endB l m := fun _ => rfl
    rw [e] at m2 m3
    rcases Nat.lt_trichotomy m j with h | h | h
    · have h3 := m3 (by omega)
      rw [← endB_succ (by omega)] at h3
      have := endB_mono (l := l) (i := m + 1) (j := j) h hj
      omega
    · exact h
    · have h3 := h2 (by omega)
      have := endB_mono (l := l) (i := j + 1) (j := m) h m1
      omega
  subst hm
  have e1 : scanB ((jrnB l).take s) = scanF s ((jrnF 0 l).take s) 0 := by unfold scanB; rw [hlen]; rfl
  unfold scanV
  rw [e1, m4, m5, m6, hlen]
  have e2 : (s : Int) - ((s - (jrnF 0 (l.take m)).length : Nat) : Int) = (endB l m : Nat) := by unfold endB jrnB; omega
  rw [e2]
  rfl

theorem cuts_loop {l2 : List Rcd} {jb : List UInt8} {s : Nat} {K : Ex → Env → Heap → Prop}
    (hk : ∀ j, j ≤ l2.length → endB l2 j ≤ s → (j < l2.length → s < endB l2 (j + 1)) → ∀ x, K (.exit 0) [(0, .islice (recRows l2)), (5, .ptr 0 0 0 0), (6, .islice (rowsI64 (endsF 0 l2))), (8, .int .i64 s), (9, .int .i64 j), (10, .int .i64 (endB l2 j : Nat)), (42, x)]
      [.rows 0 3 [[.islice (rowsU8 jb), .int .i64 0, .int .i64 (l2.length : Nat)]]]) (hl : l2.length ≤ 20) :
    wpC (Spec Try.prog) [] (MCode.loop [0, 5, 6, 8, 9, 10] m4l10) [(0, .islice (recRows l2)), (5, .ptr 0 0 0 0), (6, .islice (rowsI64 (endsF 0 l2))), (8, .int .i64 s), (9, .int .i64 0), (10, .int .i64 0)]
      [.rows 0 3 [[.islice (rowsU8 jb), .int .i64 0, .int .i64 (l2.length : Nat)]]] K := by
  have hel := endsF_len l2 0
  refine vc_loop (fun m σ H => ∃ j : Nat, m = l2.length - j ∧ j ≤ l2.length ∧ endB l2 j ≤ s ∧ H = [.rows 0 3 [[.islice (rowsU8 jb), .int .i64 0, .int .i64 (l2.length : Nat)]]] ∧
    σ = [(0, .islice (recRows l2)), (5, .ptr 0 0 0 0), (6, .islice (rowsI64 (endsF 0 l2))), (8, .int .i64 s), (9, .int .i64 j), (10, .int .i64 (endB l2 j : Nat))]) l2.length
    ⟨0, by omega, by omega, by simp [endB, jrnB, jrnF], rfl, rfl⟩ ?_
  rintro m σ H ⟨j, rfl, hj, he, rfl, rfl⟩
  by_cases hlt : j < l2.length
  · have ha := ends_at hlt
    have hl3 : (j : Int) < l2.length := by omega
    have z1 : wrp .i64 ((j : Int) + 1) = j + 1 := wrp_i64 (by omega)
    have hjr : j < (rowsI64 (endsF 0 l2)).length := by rw [rowsI64_len, hel]; exact hlt
    have ha' : (rowsI64 (endsF 0 l2))[j]'hjr = [.int .i64 (endB l2 (j + 1) : Nat)] := by
      rw [List.getElem?_eq_getElem hjr] at ha
      exact Option.some.inj ha
    simp [m4l10, m4r7, m4r8, m4r9, hel, hlt, hl3, iaddr_is, ha', z1]
    refine ⟨fun h => ⟨l2.length - (j + 1), by omega, j + 1, rfl, by omega, by omega, by omega, rfl⟩, fun h => hk j hj he (fun _ => by omega) _⟩
  · have hl3 : ¬ (j : Int) < l2.length := by omega
    simp [m4l10, m4r7, hel, hl3]
    exact hk j hj he (fun h => absurd h hlt) _

theorem law4 (l : List Rcd) (cut : Nat) (hl : l.length ≤ 9223372036854775807) (hc : cut < 65536) : ∃ H', Spec Try.prog 4 [.islice (recRows l), .int .u16 cut] [] (.bool true) H' := by
  obtain ⟨h20, h200⟩ := fewF_ok l [] (by simp) (by simp)
  obtain ⟨l2, hl2⟩ : ∃ l2, l2 = fewB l := ⟨_, rfl⟩
  have h20 : l2.length ≤ 20 := by rw [hl2]; exact h20
  have h200 : ∀ r ∈ l2, r.2.length ≤ 200 := by rw [hl2]; exact h200
  have hjl := jrn_le l2 0 h200
  obtain ⟨jb, hjb⟩ : ∃ jb, jb = jrnB l2 := ⟨_, rfl⟩
  have hjl : jb.length ≤ 4280 := by rw [hjb]; exact Nat.le_trans hjl (by omega)
  refine ⟨_, spec_of_wp (C := Spec Try.prog) (fun _ _ _ _ _ h => h) mixed m4_ok (show 2 ≤ _ by decide) (H' := [.rows 0 3 [logV (jrnB l2) 0 (l2.length : Nat)]]) ?_⟩
  unfold m4
  simp [m4r0, m4r1, envOf]
  refine vc_call ((few16 l hl).frame (Cls.cons (cl_plain (recRows_plain l)) .nil) (cl_plain (recRows_plain _)) _) ?_
  rw [← hl2]
  simp [m4r2]
  refine vc_call ((write17 l2 h20 h200).frame (Cls.cons (cl_plain (recRows_plain l2)) .nil) (cl_writeV l2) _) ?_
  unfold writeV
  rw [← hjb]
  have w1 : wrp .i64 (cut : Int) = cut := wrp_i64 (by omega)
  have w2 : wrp .i64 ((jb.length : Int) + 1) = (jb.length : Int) + 1 := wrp_i64 (by omega)
  simp (disch := first | trivial | assumption | omega | (simp +contextual; done) | (simp +contextual; omega)) [m4r3, m4r5, logV, w1, w2]
  obtain ⟨s, hs, w3⟩ : ∃ s : Nat, s ≤ jb.length ∧ (cut : Int).tmod ((jb.length : Int) + 1) = s := by
    refine ⟨cut % (jb.length + 1), by have := Nat.mod_lt cut (show 0 < jb.length + 1 by omega); omega, ?_⟩
    rw [Int.tmod_eq_emod_of_nonneg (by omega)]
    simp
  rw [w3]
  refine ⟨by omega, ?_⟩
  have hel := endsF_len l2 0
  simp [m4r6]
  refine cuts_loop (l2 := l2) (jb := jb) (s := s) (fun j hj h1 h2 x => ?_) h20
  have hsc := scan_at (l := l2) (s := s) h20 h200 (by rw [← hjb]; exact hs) hj h1 h2
  rw [← hjb] at hsc
  have hbs : (jb.take s).length < 9223372036854775807 := by rw [List.length_take]; omega
  clear w1 w2 w3
  simp [m4r11, hs, rowsU8_take]
  refine ⟨rowsU8_row jb, ?_⟩
  refine vc_call ((scan18 (jb.take s) hbs).frame (Cls.cons (cl_plain (rowsU8_plain _)) .nil) (cl_scanV _) _) ?_
  rw [hsc]
  have hrt : (recRows l2).take j = recRows (l2.take j) := by simp [recRows, List.map_take]
  have hlt : (l2.take j).length < 9223372036854775807 := by rw [List.length_take]; omega
  simp [m4r12, hj, hrt]
  refine ⟨recRows_row l2, ?_⟩
  refine vc_call ((same19 (l2.take j) (l2.take j) hlt).frame (Cls.cons (cl_plain (recRows_plain _)) (Cls.cons (cl_plain (recRows_plain _)) .nil)) .bool _) ?_
  simp
  by_cases hse : s = endB l2 j
  · subst hse
    simp [m4r14]
    refine vc_call (lives11 _) ?_
    simp
    exact fin_of rfl
  · have hse2 : ¬ (endB l2 j : Int) = s := by omega
    rw [if_neg hse]
    simp [m4r14, hse2]
    refine vc_call (lives11 _) ?_
    simp
    exact fin_of rfl
end Go.Ab.Try.S
