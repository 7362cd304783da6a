/- JournalCuts: the law's function returns true. Conditions: none. -/
import Derived.Test.YthpmmdlhoaonaaaJ20Cut
import Derived.Test.YthpmmdlhoaonaaaJ20FnL
import Derived.Test.YthpmmdlhoaonaaaJ20Lives
namespace Go.Ab.Try.S
open Go.Proofs

theorem endsF_get : ∀ (l : List Rcd) (a n j : Nat) (h : j < l.length), (endsF a l)[j]? = some (a + (jrnF n (l.take (j + 1))).length)
  | [], a, n, j, h => by simp at h
  | x :: t, a, n, 0, h => by simp [endsF, jrnF, enc_len]; omega
  | x :: t, a, n, j + 1, h => by
    have := endsF_get t (a + 14 + x.2.length) (n + 1) j (by simpa using h)
    simp only [endsF, List.getElem?_cons_succ, this, List.take_succ_cons, jrnF, List.length_append, enc_len]
    congr 1
    omega

def endB (l : List Rcd) (j : Nat) : Nat := (jrnB (l.take j)).length
theorem endB_succ {l : List Rcd} {j : Nat} (h : j < l.length) : endB l (j + 1) = endB l j + 14 + l[j].2.length := by
  unfold endB jrnB
  rw [List.take_succ_eq_append_getElem h, jrnF_app, List.length_append, enc_len]
  omega
theorem endB_mono {l : List Rcd} : ∀ {i j : Nat}, i ≤ j → j ≤ l.length → endB l i ≤ endB l j := by
  intro i j hij hj
  induction j with
  | zero => have : i = 0 := by omega
            subst this; exact Nat.le_refl _
  | succ j ih =>
    by_cases h : i = j + 1
    · subst h; exact Nat.le_refl _
    · have := ih (by omega) (by omega)
      rw [endB_succ (by omega : j < l.length)]
      omega
theorem ends_at {l : List Rcd} {j : Nat} (h : j < l.length) : (rowsI64 (endsF 0 l))[j]? = some [.int .i64 (endB l (j + 1) : Nat)] := by
  unfold rowsI64
  rw [List.getElem?_map, endsF_get l 0 0 j h]
  simp [endB, jrnB]

/-- What is read of the first s bytes, where j records lie wholly in them. -/
theorem scan_at {l : List Rcd} {s j : Nat} (hl : l.length ≤ 20) (hd : ∀ r ∈ l, r.2.length ≤ 200) (hs : s ≤ (jrnB l).length) (hj : j ≤ l.length) (h1 : endB l j ≤ s) (h2 : j < l.length → s < endB l (j + 1)) :
    scanV ((jrnB l).take s) = .tup [.islice (recRows (l.take j)), .int .i64 (endB l j : Nat), .int .u8 ((if s = endB l j then 0 else 6 : Nat) : Int)] := by
  have hlen : ((jrnB l).take s).length = s := by rw [List.length_take]; omega
  obtain ⟨m, m1, m2, m3, m4, m5, m6⟩ := scan_cut l 0 s s (fun r hr => Nat.le_trans (hd r hr) (by omega)) (by omega) hs (Nat.le_refl _)
  have hm : m = j := by
    have e : ∀ m, (jrnF 0 (l.take m)).length = endB l m := fun _ => rfl
    rw [e] at m2 m3
    rcases Nat.lt_trichotomy m j with h | h | h
    · have h3 := m3 (by omega)
      rw [← endB_succ (by omega)] at h3
      have := endB_mono (l := l) (i := m + 1) (j := j) h hj
      omega
    · exact h
    · have h3 := h2 (by omega)
      have := endB_mono (l := l) (i := j + 1) (j := m) h m1
      omega
  subst hm
  have e1 : scanB ((jrnB l).take s) = scanF s ((jrnF 0 l).take s) 0 := by unfold scanB; rw [hlen]; rfl
  unfold scanV
  rw [e1, m4, m5, m6, hlen]
  have e2 : (s : Int) - ((s - (jrnF 0 (l.take m)).length : Nat) : Int) = (endB l m : Nat) := by unfold endB jrnB; omega
  rw [e2]
  rfl

theorem cuts_loop {l2 : List Rcd} {jb : List UInt8} {s : Nat} {K : Ex → Env → Heap → Prop}
    (hk : ∀ j, j ≤ l2.length → endB l2 j ≤ s → (j < l2.length → s < endB l2 (j + 1)) → ∀ x, K (.exit 0) [(0, .islice (recRows l2)), (5, .ptr 0 0 0 0), (6, .islice (rowsI64 (endsF 0 l2))), (8, .int .i64 s), (9, .int .i64 j), (10, .int .i64 (endB l2 j : Nat)), (42, x)]
      [.rows 0 3 [[.islice (rowsU8 jb), .int .i64 0, .int .i64 (l2.length : Nat)]]]) (hl : l2.length ≤ 20) :
    wpC (Spec Try.prog) [] (MCode.loop [0, 5, 6, 8, 9, 10] m4l10) [(0, .islice (recRows l2)), (5, .ptr 0 0 0 0), (6, .islice (rowsI64 (endsF 0 l2))), (8, .int .i64 s), (9, .int .i64 0), (10, .int .i64 0)]
      [.rows 0 3 [[.islice (rowsU8 jb), .int .i64 0, .int .i64 (l2.length : Nat)]]] K := by
  have hel := endsF_len l2 0
  refine vc_loop (fun m σ H => ∃ j : Nat, m = l2.length - j ∧ j ≤ l2.length ∧ endB l2 j ≤ s ∧ H = [.rows 0 3 [[.islice (rowsU8 jb), .int .i64 0, .int .i64 (l2.length : Nat)]]] ∧
    σ = [(0, .islice (recRows l2)), (5, .ptr 0 0 0 0), (6, .islice (rowsI64 (endsF 0 l2))), (8, .int .i64 s), (9, .int .i64 j), (10, .int .i64 (endB l2 j : Nat))]) l2.length
    ⟨0, by omega, by omega, by simp [endB, jrnB, jrnF], rfl, rfl⟩ ?_
  rintro m σ H ⟨j, rfl, hj, he, rfl, rfl⟩
  by_cases hlt : j < l2.length
  · have ha := ends_at hlt
    have hl3 : (j : Int) < l2.length := by omega
    have z1 : wrp .i64 ((j : Int) + 1) = j + 1 := wrp_i64 (by omega)
    have hjr : j < (rowsI64 (endsF 0 l2)).length := by rw [rowsI64_len, hel]; exact hlt
    have ha' : (rowsI64 (endsF 0 l2))[j]'hjr = [.int .i64 (endB l2 (j + 1) : Nat)] := by
      rw [List.getElem?_eq_getElem hjr] at ha
      exact Option.some.inj ha
    simp [m4l10, m4r7, m4r8, m4r9, hel, hlt, hl3, iaddr_is, ha', z1]
    refine ⟨fun h => ⟨l2.length - (j + 1), by omega, j + 1, rfl, by omega, by omega, by omega, rfl⟩, fun h => hk j hj he (fun _ => by omega) _⟩
  · have hl3 : ¬ (j : Int) < l2.length := by omega
    simp [m4l10, m4r7, hel, hl3]
    exact hk j hj he (fun h => absurd h hlt) _

theorem law4 (l : List Rcd) (cut : Nat) (hl : l.length ≤ 9223372036854775807) (hc : cut < 65536) : ∃ H', Spec Try.prog 4 [.islice (recRows l), .int .u16 cut] [] (.bool true) H' := by
  obtain ⟨h20, h200⟩ := fewF_ok l [] (by simp) (by simp)
  obtain ⟨l2, hl2⟩ : ∃ l2, l2 = fewB l := ⟨_, rfl⟩
  have h20 : l2.length ≤ 20 := by rw [hl2]; exact h20
  have h200 : ∀ r ∈ l2, r.2.length ≤ 200 := by rw [hl2]; exact h200
  have hjl := jrn_le l2 0 h200
  obtain ⟨jb, hjb⟩ : ∃ jb, jb = jrnB l2 := ⟨_, rfl⟩
  have hjl : jb.length ≤ 4280 := by rw [hjb]; exact Nat.le_trans hjl (by omega)
  refine ⟨_, spec_of_wp (C := Spec Try.prog) (fun _ _ _ _ _ h => h) mixed m4_ok (show 2 ≤ _ by decide) (H' := [.rows 0 3 [logV (jrnB l2) 0 (l2.length : Nat)]]) ?_⟩
  unfold m4
  simp [m4r0, m4r1, envOf]
  refine vc_call ((few16 l hl).frame (Cls.cons (cl_plain (recRows_plain l)) .nil) (cl_plain (recRows_plain _)) _) ?_
  rw [← hl2]
  simp [m4r2]
  refine vc_call ((write17 l2 h20 h200).frame (Cls.cons (cl_plain (recRows_plain l2)) .nil) (cl_writeV l2) _) ?_
  unfold writeV
  rw [← hjb]
  have w1 : wrp .i64 (cut : Int) = cut := wrp_i64 (by omega)
  have w2 : wrp .i64 ((jb.length : Int) + 1) = (jb.length : Int) + 1 := wrp_i64 (by omega)
  simp (disch := first | trivial | assumption | omega | (simp +contextual; done) | (simp +contextual; omega)) [m4r3, m4r5, logV, w1, w2]
  obtain ⟨s, hs, w3⟩ : ∃ s : Nat, s ≤ jb.length ∧ (cut : Int).tmod ((jb.length : Int) + 1) = s := by
    refine ⟨cut % (jb.length + 1), by have := Nat.mod_lt cut (show 0 < jb.length + 1 by omega); omega, ?_⟩
    rw [Int.tmod_eq_emod_of_nonneg (by omega)]
    simp
  rw [w3]
  refine ⟨by omega, ?_⟩
  have hel := endsF_len l2 0
  simp [m4r6]
  refine cuts_loop (l2 := l2) (jb := jb) (s := s) (fun j hj h1 h2 x => ?_) h20
  have hsc := scan_at (l := l2) (s := s) h20 h200 (by rw [← hjb]; exact hs) hj h1 h2
  rw [← hjb] at hsc
  have hbs : (jb.take s).length < 9223372036854775807 := by rw [List.length_take]; omega
  clear w1 w2 w3
  simp [m4r11, hs, rowsU8_take]
  refine ⟨rowsU8_row jb, ?_⟩
  refine vc_call ((scan18 (jb.take s) hbs).frame (Cls.cons (cl_plain (rowsU8_plain _)) .nil) (cl_scanV _) _) ?_
  rw [hsc]
  have hrt : (recRows l2).take j = recRows (l2.take j) := by simp [recRows, List.map_take]
  have hlt : (l2.take j).length < 9223372036854775807 := by rw [List.length_take]; omega
  simp [m4r12, hj, hrt]
  refine ⟨recRows_row l2, ?_⟩
  refine vc_call ((same19 (l2.take j) (l2.take j) hlt).frame (Cls.cons (cl_plain (recRows_plain _)) (Cls.cons (cl_plain (recRows_plain _)) .nil)) .bool _) ?_
  simp
  by_cases hse : s = endB l2 j
  · subst hse
    simp [m4r14]
    refine vc_call (lives11 _) ?_
    simp
    exact fin_of rfl
  · have hse2 : ¬ (endB l2 j : Int) = s := by omega
    rw [if_neg hse]
    simp [m4r14, hse2]
    refine vc_call (lives11 _) ?_
    simp
    exact fin_of rfl
end Go.Ab.Try.S

/- What is found after a crash of a journal. Conditions: none. -/
namespace Go.Ab.Try.S
open Go.Proofs

theorem jrn_app_take : ∀ (l : List Rcd) (n m : Nat), m ≤ l.length → jrnF n l = jrnF n (l.take m) ++ jrnF (n + m) (l.drop m)
  | l, n, 0, _ => by simp [jrnF]
  | [], n, m + 1, h => by simp at h
  | x :: t, n, m + 1, h => by
    have := jrn_app_take t (n + 1) m (by simpa using h)
    simp only [jrnF, List.take_succ_cons, List.drop_succ_cons, List.append_assoc]
    rw [this, show n + 1 + m = n + (m + 1) by omega]

/-- What Recover gives of the first bytes of a journal. -/
theorem recov_at {l : List Rcd} {s : Nat} (hl : l.length ≤ 40) (hd : ∀ r ∈ l, r.2.length ≤ 200) (hs : s ≤ (jrnB l).length) :
    ∃ m, m ≤ l.length ∧ (∀ k, k ≤ l.length → endB l k ≤ s → k ≤ m) ∧ recovV ((jrnB l).take s) = .tup [.agg (logV (jrnB (l.take m)) (endB l m : Nat) m), .islice (recRows (l.take m))] := by
  have hlen : ((jrnB l).take s).length = s := by rw [List.length_take]; omega
  obtain ⟨m, m1, m2, m3, m4, m5, _⟩ := scan_cut l 0 s s (fun r hr => Nat.le_trans (hd r hr) (by omega)) (by omega) hs (Nat.le_refl _)
  have e1 : scanB ((jrnB l).take s) = scanF s ((jrnF 0 l).take s) 0 := by unfold scanB; rw [hlen]; rfl
  refine ⟨m, m1, fun k hk hks => ?_, ?_⟩
  · refine Nat.le_of_not_lt fun hlt => ?_
    have h3 := m3 (by omega)
    have e : (jrnF 0 (l.take m)).length = endB l m := rfl
    rw [e, ← endB_succ (by omega)] at h3
    have := endB_mono (l := l) (i := m + 1) (j := k) hlt hk
    omega
  · have e2 : s - (s - (jrnF 0 (l.take m)).length) = endB l m := by
      have e : (jrnF 0 (l.take m)).length = endB l m := rfl
      rw [e] at m2 ⊢
      omega
    have hpre : jrnB l = jrnB (l.take m) ++ jrnF (0 + m) (l.drop m) := jrn_app_take l 0 m m1
    have e3 : ((jrnB l).take s).take (endB l m) = jrnB (l.take m) := by
      have e : (jrnF 0 (l.take m)).length = endB l m := rfl
      rw [List.take_take, show min (endB l m) s = endB l m by rw [e] at m2; omega, hpre]
      exact List.take_left
    unfold recovV
    rw [e1, m4, m5, hlen, e2, e3]
    have e5 : (l.take m).length = m := by rw [List.length_take]; omega
    rw [e5]

theorem scan_all {l : List Rcd} (hl : l.length ≤ 40) (hd : ∀ r ∈ l, r.2.length ≤ 200) : scanV (jrnB l) = .tup [.islice (recRows l), .int .i64 ((jrnB l).length : Nat), .int .u8 0] := by
  obtain ⟨m, m1, m2, m3, m4, m5, m6⟩ := scan_cut l 0 (jrnB l).length (jrnB l).length (fun r hr => Nat.le_trans (hd r hr) (by omega)) (by omega) (Nat.le_refl _) (Nat.le_refl _)
  have hm : m = l.length := by
    refine Nat.le_antisymm m1 (Nat.le_of_not_lt fun hlt => ?_)
    have h3 := m3 hlt
    have e : (jrnF 0 (l.take m)).length = endB l m := rfl
    rw [e, ← endB_succ hlt] at h3
    have := endB_mono (l := l) (i := m + 1) (j := l.length) hlt (Nat.le_refl _)
    unfold endB at this h3
    rw [List.take_length] at this
    omega
  subst hm
  rw [List.take_length] at m4 m5 m6
  have e : (jrnF 0 l).take (jrnB l).length = jrnB l := List.take_length
  rw [e] at m4 m5 m6
  unfold scanV scanB
  rw [m4, m5, m6, if_pos (show (jrnB l).length = (jrnF 0 l).length from rfl)]
  have e2 : ((jrnB l).length : Int) - ((jrnB l).length - (jrnF 0 l).length : Nat) = ((jrnB l).length : Nat) := by
    have : (jrnF 0 l).length = (jrnB l).length := rfl
    omega
  rw [e2]
  rfl

abbrev Act := UInt8 × Rcd × Nat
def actRows (l : List Act) : List Row := l.map fun a => [.int .u8 a.1.toNat, .int .u8 a.2.1.1.toNat, .islice (rowsU8 a.2.1.2), .int .u16 a.2.2]
@[simp] theorem actRows_len (l : List Act) : (actRows l).length = l.length := by simp [actRows]
theorem actRows_plain (l : List Act) : Plain (actRows l) := by
  intro row h c hc
  simp only [actRows, List.mem_map] at h
  obtain ⟨x, _, rfl⟩ := h
  simp at hc
  rcases hc with rfl | rfl | rfl | rfl
  · exact ⟨rfl, .int⟩
  · exact ⟨rfl, .int⟩
  · exact ⟨rfl, cl_plain (rowsU8_plain _)⟩
  · exact ⟨rfl, .int⟩

/-- The records so far, in a slice of the call's own that may show only the first part of its block. -/
def AllI (all : List Rcd) (c : AV) (J : Heap) : Prop := (all = [] ∧ c = .nils ∧ J = []) ∨ ∃ g big, c = .slice 1 g 0 all.length ∧ J = [.rows g 2 (recRows big)] ∧ big.take all.length = all

/-- What the log and the records have to do with each other. -/
structure LogI (all : List Rcd) (s sy i : Nat) : Prop where
  len : all.length ≤ i
  small : ∀ r ∈ all, r.2.length ≤ 200
  s1 : s ≤ (jrnB all).length
  s2 : sy ≤ all.length
  s3 : endB all sy ≤ s

theorem LogI.sync {all : List Rcd} {s sy i : Nat} (h : LogI all s sy i) : LogI all (jrnB all).length all.length (i + 1) :=
  ⟨Nat.le_succ_of_le h.len, h.small, Nat.le_refl _, Nat.le_refl _, by unfold endB; rw [List.take_length]; exact Nat.le_refl _⟩
theorem LogI.next {all : List Rcd} {s sy i : Nat} (h : LogI all s sy i) : LogI all s sy (i + 1) := ⟨Nat.le_succ_of_le h.len, h.small, h.s1, h.s2, h.s3⟩
theorem LogI.app {all : List Rcd} {s sy i : Nat} {r : Rcd} (h : LogI all s sy i) (hr : r.2.length ≤ 200) : LogI (all ++ [r]) s sy (i + 1) := by
  refine ⟨by simp; exact h.len, fun x hx => ?_, ?_, by simp; exact Nat.le_succ_of_le h.s2, ?_⟩
  · rcases List.mem_append.1 hx with hx | hx
    · exact h.small x hx
    · simp at hx; subst hx; exact hr
  · unfold jrnB; rw [jrnF_app, List.length_append]; exact Nat.le_trans h.s1 (Nat.le_add_right _ _)
  · unfold endB; rw [List.take_append_of_le_length h.s2]; exact h.s3
theorem LogI.cut {all : List Rcd} {s sy i m : Nat} (h : LogI all s sy i) (hm : m ≤ all.length) : LogI (all.take m) (endB all m) m (i + 1) := by
  have e : (all.take m).length = m := by rw [List.length_take]; omega
  refine ⟨?_, fun x hx => h.small x (List.mem_of_mem_take hx), Nat.le_refl _, ?_, ?_⟩
  · rw [e]; exact Nat.le_succ_of_le (Nat.le_trans hm h.len)
  · rw [e]; exact Nat.le_refl _
  · unfold endB; rw [List.take_take, Nat.min_self]; exact Nat.le_refl _
theorem LogI.bytes {all : List Rcd} {s sy i : Nat} (h : LogI all s sy i) (hi : i ≤ 40) : (jrnB all).length ≤ 8560 ∧ all.length ≤ 40 := by
  have h1 := jrn_le all 0 h.small
  have h2 := h.len
  have e : (jrnF 0 all).length = (jrnB all).length := rfl
  rw [e] at h1
  omega

theorem sync_ok {b : List UInt8} {s c : Nat} (hs : s ≤ b.length) (hc : c ≤ 1048576) : syncV b s c = .agg (logV b b.length c) := by
  rw [syncV, if_pos (by simp [validB]; omega)]
theorem crash_ok {b : List UInt8} {s c keep : Nat} (hs : s ≤ b.length) (hc : c ≤ 1048576) : crashB b s c keep = b.take (max s (min keep b.length)) := by
  rw [crashB, if_pos (by simp [validB]; omega)]
  congr 1
  omega
theorem app_ok2 {b : List UInt8} {s c : Nat} {k : UInt8} {d : List UInt8} (hs : s ≤ b.length) (hc : c < 1048576) (hd : d.length ≤ 4096) : appV b s c k d = .tup [.agg (logV (b ++ encB c k d) s ((c : Int) + 1)), .int .u8 0] := by
  have h1 : validB b s c = true := by simp [validB]; omega
  have : appL b s c k d = (b ++ encB c k d, (s : Int), (c : Int) + 1, 0) := by
    unfold appL
    rw [if_neg (by rw [h1]; simp), if_neg (by omega), if_neg (by omega), Int.toNat_natCast]
  unfold appV
  rw [this]
  rfl
end Go.Ab.Try.S
