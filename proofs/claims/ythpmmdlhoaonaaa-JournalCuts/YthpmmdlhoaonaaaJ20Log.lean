/- Logs: Valid, Append, Sync, Crash of the program and of the reference. Conditions: none. -/
import Derived.Test.YthpmmdlhoaonaaaJ20Enc2
import Derived.Test.YthpmmdlhoaonaaaJ20Lives
namespace Go.Ab.Try.S
open Go.Proofs

def logV (b : List UInt8) (s c : Int) : List AV := [.islice (rowsU8 b), .int .i64 s, .int .i64 c]
def validB (b : List UInt8) (s c : Int) : Bool := decide (0 ≤ s ∧ s ≤ (b.length : Int) ∧ 0 ≤ c ∧ c ≤ 1048576)
theorem cl_log (b : List UInt8) (s c : Int) : Cl 0 (.agg (logV b s c)) := (Cls.cons (cl_plain (rowsU8_plain b)) (Cls.cons .int (Cls.cons .int .nil))).agg

theorem valid27 (b : List UInt8) (s c : Int) : Spec Try.prog 27 [.agg (logV b s c)] [] (.bool (validB b s c)) [] := by
  refine spec_of_wp (C := Spec Try.prog) (fun _ _ _ _ _ h => h) mixed m27_ok (show 1 ≤ 24 by decide) ?_
  unfold m27
  simp +contextual [m27r0, m27r1, envOf, logV]
  refine fin_drop ?_
  have : validB b s c = (decide (0 ≤ s) && decide (s ≤ (b.length : Int)) && decide (0 ≤ c) && decide (c ≤ 1048576)) := by
    unfold validB; rw [Bool.eq_iff_iff]; simp [and_assoc]
  rw [this]
  exact .refl .bool
theorem rvalid28 (b : List UInt8) (s c : Int) : Spec Try.prog 28 [.agg (logV b s c)] [] (.bool (validB b s c)) [] := by
  refine spec_of_wp (C := Spec Try.prog) (fun _ _ _ _ _ h => h) mixed m28_ok (show 1 ≤ 24 by decide) ?_
  unfold m28
  simp +contextual [m28r0, m28r1, envOf, logV]
  refine fin_drop ?_
  have : validB b s c = (decide (0 ≤ s) && decide (s ≤ (b.length : Int)) && decide (0 ≤ c) && decide (c ≤ 1048576)) := by
    unfold validB; rw [Bool.eq_iff_iff]; simp [and_assoc]
  rw [this]
  exact .refl .bool

theorem copied36 (b : List UInt8) (hb : b.length ≤ roomB) : Spec Try.prog 36 [.islice (rowsU8 b)] [] (.islice (rowsU8 b)) [] := by
  refine spec_of_wp (C := Spec Try.prog) (fun _ _ _ _ _ h => h) mixed m36_ok (show 1 ≤ 7 by decide) ?_
  unfold m36
  simp [m36r0, m36r1, m36r2, envOf]
  refine W_app_nil rfl hb fun c H' h => ?_
  simp
  exact fin_acc h (rowsU8_row b) (rowsU8_plain b)

/-- The copy, as the caller's own. -/
theorem copied36o (b : List UInt8) (hb : b.length ≤ roomB) (H : Heap) : ∃ c H', Acc1 H 1 (rowsU8 b) c H' ∧ Spec Try.prog 36 [.islice (rowsU8 b)] H c H' := by
  cases b with
  | nil =>
    refine ⟨.nils, H, Acc1.nil, ?_⟩
    refine spec_of_wp (C := Spec Try.prog) (fun _ _ _ _ _ h => h) mixed m36_ok (show 1 ≤ 7 by decide) ?_
    unfold m36
    simp [m36r0, m36r1, m36r2, envOf]
    exact W_of (append_nil0 rfl) (by simp; exact fin_of rfl)
  | cons x b =>
    refine ⟨.slice H.length 0 0 (x :: b).length, H ++ [.rows 0 1 (rowsU8 (x :: b))], .inr ⟨0, by simp, rfl⟩, ?_⟩
    refine spec_of_wp (C := Spec Try.prog) (fun _ _ _ _ _ h => h) mixed m36_ok (show 1 ≤ 7 by decide) ?_
    unfold m36
    simp only [m36r0, m36r1, m36r2, envOf]
    simp
    refine W_of (append_nil (row := [.int .u8 x.toNat]) (rest := rowsU8 b) rfl (rowsU8_row (x :: b)) (by simp at hb ⊢; omega)) ?_
    simp
    exact fin_of rfl

theorem samelog23 (a b : List UInt8) (s c s' c' : Int) : Spec Try.prog 23 [.agg (logV a s c), .agg (logV b s' c')] [] (.bool (decide (a = b ∧ s = s' ∧ c = c'))) [] := by
  refine spec_of_wp (C := Spec Try.prog) (fun _ _ _ _ _ h => h) mixed m23_ok (show 2 ≤ 26 by decide) ?_
  unfold m23
  simp +contextual [m23r0, m23r1, envOf, logV, bytesOf_rowsU8]
  exact fin_drop (by rw [Bool.and_assoc]; exact .refl .bool)

def syncV (b : List UInt8) (s c : Int) : AV := if validB b s c = true then .agg (logV b b.length c) else .agg (logV [] 0 0)

theorem sync29 (b : List UInt8) (s c : Int) (hb : b.length ≤ roomB) : Spec Try.prog 29 [.agg (logV b s c)] [] (syncV b s c) [] := by
  refine spec_of_wp (C := Spec Try.prog) (fun _ _ _ _ _ h => h) mixed m29_ok (show 1 ≤ 16 by decide) ?_
  unfold m29
  simp +contextual [m29r0, m29r1, envOf, logV]
  refine vc_call ((valid27 b s c).frame (Cls.cons (cl_log b s c) .nil) .bool _) ?_
  simp +contextual [m29r2, m29r3, m29r4]
  refine ⟨fun h => fin_drop ?_, fun h => ?_⟩
  · rw [syncV, if_neg (by rw [h]; simp)]
    exact (CVs.cons .nil0 (CVs.cons (.refl .int) (CVs.cons (.refl .int) .nil))).agg
  · refine W_app_nil rfl hb fun x H' hx => ⟨hx.grown, ?_⟩
    rw [syncV, if_pos h]
    have hfz := hx.freeze (rowsU8_row b) (rowsU8_plain b)
    rcases hx with ⟨hl, rfl, rfl⟩ | ⟨g, rfl, rfl⟩
    · simp +contextual
      have : b = [] := by cases b; rfl; simp [rowsU8] at hl
      subst this
      exact fin_drop (CVs.cons .nil0 (CVs.cons (.refl .int) (CVs.cons (.refl .int) .nil))).agg
    · simp +contextual
      refine fin_drop (CVs.cons ?_ (CVs.cons (.refl .int) (CVs.cons (.refl .int) .nil))).agg
      have := (own_bytes (r := 2) (g := g) (b := b) (H := [ABlk.rows 0 3 [[AV.islice (rowsU8 b), AV.int .i64 s, AV.int .i64 c]], .rows 0 3 [[.slice 2 g 0 b.length, .int .i64 b.length, .int .i64 c]], .rows g 1 (rowsU8 b)]) rfl).freeze (rowsU8_plain b)
      exact this

theorem rsync30 (b : List UInt8) (s c : Int) (hb : b.length ≤ roomB) : Spec Try.prog 30 [.agg (logV b s c)] [] (syncV b s c) [] := by
  refine spec_of_wp (C := Spec Try.prog) (fun _ _ _ _ _ h => h) mixed m30_ok (show 1 ≤ 16 by decide) ?_
  unfold m30
  simp +contextual [m30r0, m30r1, envOf, logV]
  refine vc_call ((rvalid28 b s c).frame (Cls.cons (cl_log b s c) .nil) .bool _) ?_
  simp +contextual [m30r2, m30r3, m30r4]
  refine ⟨fun h => fin_drop ?_, fun h => ?_⟩
  · rw [syncV, if_neg (by rw [h]; simp)]
    exact (CVs.cons .nil0 (CVs.cons (.refl .int) (CVs.cons (.refl .int) .nil))).agg
  · refine vc_call ((copied36 b hb).frame (Cls.cons (cl_plain (rowsU8_plain b)) .nil) (cl_plain (rowsU8_plain b)) _) ?_
    rw [syncV, if_pos h]
    simp +contextual
    exact fin_drop (CVs.cons (.refl (cl_plain (rowsU8_plain b))) (CVs.cons (.refl .int) (CVs.cons (.refl .int) .nil))).agg

/-- What a crash leaves. -/
def crashB (b : List UInt8) (s c keep : Int) : List UInt8 := if validB b s c = true then b.take (max s (min keep b.length)).toNat else []

theorem rowsU8_take (b : List UInt8) (n : Nat) : (rowsU8 b).take n = rowsU8 (b.take n) := by simp [rowsU8, List.map_take]
theorem rowsU8_drop (b : List UInt8) (n : Nat) : (rowsU8 b).drop n = rowsU8 (b.drop n) := by simp [rowsU8, List.map_drop]

theorem validB_ok {b : List UInt8} {s c : Int} (h : validB b s c = true) : 0 ≤ s ∧ s ≤ (b.length : Int) ∧ 0 ≤ c ∧ c ≤ 1048576 := by simpa [validB] using h

theorem crash24 (b : List UInt8) (s c keep : Int) (hb : b.length ≤ roomB) : Spec Try.prog 24 [.agg (logV b s c), .int .i64 keep] [] (.islice (rowsU8 (crashB b s c keep))) [] := by
  refine spec_of_wp (C := Spec Try.prog) (fun _ _ _ _ _ h => h) mixed m24_ok (show 2 ≤ 20 by decide) ?_
  unfold m24
  simp +contextual [m24r0, m24r1, envOf, logV]
  refine vc_call ((valid27 b s c).frame (Cls.cons (cl_log b s c) .nil) .bool _) ?_
  simp +contextual [m24r2, m24r3]
  refine ⟨fun h => fin_drop ?_, fun h => ?_⟩
  · rw [crashB, if_neg (by rw [h]; simp)]
    exact .nil0
  · have hv := validB_ok h
    rw [crashB, if_pos h]
    generalize hn : max s (min keep (b.length : Int)) = n
    have h0 : 0 ≤ n ∧ n ≤ (b.length : Int) := by omega
    refine ⟨h0.1, ⟨by omega, rowsU8_row b⟩, ?_⟩
    rw [rowsU8_take]
    refine W_app_nil rfl (by simp; omega) fun x H' hx => ?_
    simp
    exact fin_acc hx (rowsU8_row _) (rowsU8_plain _)

theorem rcrash31 (b : List UInt8) (s c keep : Int) (hb : b.length ≤ roomB) : Spec Try.prog 31 [.agg (logV b s c), .int .i64 keep] [] (.islice (rowsU8 (crashB b s c keep))) [] := by
  refine spec_of_wp (C := Spec Try.prog) (fun _ _ _ _ _ h => h) mixed m31_ok (show 2 ≤ 25 by decide) ?_
  unfold m31
  simp +contextual [m31r0, m31r1, envOf, logV]
  refine vc_call ((rvalid28 b s c).frame (Cls.cons (cl_log b s c) .nil) .bool _) ?_
  simp +contextual [m31r2, m31r3, m31r4, m31r5, m31r6]
  refine ⟨fun h => fin_drop ?_, fun h => ?_⟩
  · rw [crashB, if_neg (by rw [h]; simp)]
    exact .nil0
  · have hv := validB_ok h
    rw [crashB, if_pos h]
    have hcl : ∀ n, Cls 0 [AV.islice (rowsU8 (b.take n))] := fun n => Cls.cons (cl_plain (rowsU8_plain (b.take n))) .nil
    refine ⟨fun hlt => ⟨hv.1, ⟨hv.2.1, rowsU8_row b⟩, ?_⟩, fun hle => ⟨by omega, ⟨by omega, rowsU8_row b⟩, ?_⟩⟩
    · rw [rowsU8_take, show max s (min keep (b.length : Int)) = s by omega]
      refine vc_call ((copied36 (b.take s.toNat) (by simp; omega)).frame (hcl _) (cl_plain (rowsU8_plain _)) _) ?_
      simp
      exact fin_drop (.refl (cl_plain (rowsU8_plain _)))
    · rw [rowsU8_take, show max s (min keep (b.length : Int)) = min keep (b.length : Int) by omega]
      refine vc_call ((copied36 (b.take (min keep (b.length : Int)).toNat) (by simp; omega)).frame (hcl _) (cl_plain (rowsU8_plain _)) _) ?_
      simp
      exact fin_drop (.refl (cl_plain (rowsU8_plain _)))

/-- What an append comes to: the log's bytes, Synced and Count, and the error. -/
def appL (b : List UInt8) (s c : Int) (k : UInt8) (d : List UInt8) : List UInt8 × Int × Int × Nat :=
  if validB b s c = false then ([], 0, 0, 2) else if c = 1048576 then ([], 0, 0, 10) else if 4096 < d.length then ([], 0, 0, 4) else (b ++ encB c.toNat k d, s, c + 1, 0)
def appV (b : List UInt8) (s c : Int) (k : UInt8) (d : List UInt8) : AV := .tup [.agg (logV (appL b s c k d).1 (appL b s c k d).2.1 (appL b s c k d).2.2.1), .int .u8 ((appL b s c k d).2.2.2 : Nat)]

theorem append25 (b : List UInt8) (s c : Int) (k : UInt8) (d : List UInt8) (hb : b.length ≤ 1000000000) (hd : d.length ≤ 1000000) : Spec Try.prog 25 [.agg (logV b s c), .agg (recV k d)] [] (appV b s c k d) [] := by
  refine spec_of_wp (C := Spec Try.prog) (fun _ _ _ _ _ h => h) mixed m25_ok (show 2 ≤ 40 by decide) ?_
  unfold m25
  simp +contextual [m25r0, m25r1, envOf, logV, recV]
  refine vc_call ((valid27 b s c).frame (Cls.cons (cl_log b s c) .nil) .bool _) ?_
  simp +contextual [m25r2, m25r3, m25r4, m25r5]
  refine ⟨fun h => fin_drop ?_, fun h => ⟨fun h2 => fin_drop ?_, fun h2 => ?_⟩⟩
  · simp only [appV, appL, if_pos h]
    exact (CVs.cons (CVs.cons .nil0 (CVs.cons (.refl .int) (CVs.cons (.refl .int) .nil))).agg (CVs.cons (.refl .int) .nil)).tup
  · subst h2
    simp only [appV, appL, h, Bool.true_eq_false, if_false, if_true]
    exact (CVs.cons (CVs.cons .nil0 (CVs.cons (.refl .int) (CVs.cons (.refl .int) .nil))).agg (CVs.cons (.refl .int) .nil)).tup
  have hv := validB_ok h
  refine vc_call ((encode12 c k d hd).frame (Cls.cons .int (Cls.cons (cl_rec k d) .nil)) (by
    unfold encV; split
    · exact (Cls.cons (cl_plain (rowsU8_plain [])) (Cls.cons .int .nil)).tup
    · split
      · exact (Cls.cons (cl_plain (rowsU8_plain [])) (Cls.cons .int .nil)).tup
      · exact (Cls.cons (cl_plain (rowsU8_plain _)) (Cls.cons .int .nil)).tup) _) ?_
  rw [encV, if_neg (by omega)]
  by_cases h3 : 4096 < d.length
  · rw [if_pos h3]
    simp +contextual [m25r6, m25r7]
    refine fin_drop ?_
    simp only [appV, appL, h, Bool.true_eq_false, if_false, h2, if_pos h3]
    exact (CVs.cons (CVs.cons .nil0 (CVs.cons (.refl .int) (CVs.cons (.refl .int) .nil))).agg (CVs.cons (.refl .int) .nil)).tup
  · rw [if_neg h3]
    simp +contextual [m25r6, m25r7, m25r8]
    have hlen : (encB c.toNat k d).length = 14 + d.length := by simp [encB, encH, numB_len]; omega
    refine W_app_nil rfl (by simp [roomB]; omega) fun x H' hx => ?_
    refine hx.append (x := .islice (rowsU8 (encB c.toNat k d))) rfl (rowsU8_row _) (by simp [roomB]; omega) fun y H2 hy => ?_
    rw [← rowsU8_append] at hy
    rcases hy with ⟨hl, _, _⟩ | ⟨g, rfl, rfl⟩
    · have := congrArg List.length hl
      simp [hlen] at this
    · simp +contextual [m25r9, m25r10]
      refine fin_drop ?_
      simp only [appV, appL, h, Bool.true_eq_false, if_false, h2, if_neg h3]
      rw [wrp_i64 (by omega)]
      refine (CVs.cons (CVs.cons ?_ (CVs.cons (.refl .int) (CVs.cons (.refl .int) .nil))).agg (CVs.cons (.refl .int) .nil)).tup
      refine Own.freeze (J := _) (r := 3) (sz := 1) ?_ (rowsU8_plain _)
      rw [← List.length_append]
      exact own_bytes rfl

theorem cl_encV' (n : Int) (k : UInt8) (d : List UInt8) : Cl 0 (encV n k d) := by
  unfold encV; split
  · exact (Cls.cons (cl_plain (rowsU8_plain [])) (Cls.cons .int .nil)).tup
  · split
    · exact (Cls.cons (cl_plain (rowsU8_plain [])) (Cls.cons .int .nil)).tup
    · exact (Cls.cons (cl_plain (rowsU8_plain _)) (Cls.cons .int .nil)).tup

theorem rappend26 (b : List UInt8) (s c : Int) (k : UInt8) (d : List UInt8) (hb : b.length ≤ 1000000000) (hd : d.length ≤ 1000000) : Spec Try.prog 26 [.agg (logV b s c), .agg (recV k d)] [] (appV b s c k d) [] := by
  refine spec_of_wp (C := Spec Try.prog) (fun _ _ _ _ _ h => h) mixed m26_ok (show 2 ≤ 38 by decide) ?_
  unfold m26
  simp +contextual [m26r0, m26r1, envOf, logV, recV]
  refine vc_call ((rvalid28 b s c).frame (Cls.cons (cl_log b s c) .nil) .bool _) ?_
  simp +contextual [m26r2, m26r3, m26r4, m26r5]
  refine ⟨fun h => fin_drop ?_, fun h => ⟨fun h2 => fin_drop ?_, fun h2 => ?_⟩⟩
  · simp only [appV, appL, if_pos h]
    exact (CVs.cons (CVs.cons .nil0 (CVs.cons (.refl .int) (CVs.cons (.refl .int) .nil))).agg (CVs.cons (.refl .int) .nil)).tup
  · subst h2
    simp only [appV, appL, h, Bool.true_eq_false, if_false, if_true]
    exact (CVs.cons (CVs.cons .nil0 (CVs.cons (.refl .int) (CVs.cons (.refl .int) .nil))).agg (CVs.cons (.refl .int) .nil)).tup
  have hv := validB_ok h
  refine vc_call ((rencode13 c k d hd).frame (Cls.cons .int (Cls.cons (cl_rec k d) .nil)) (cl_encV' c k d) _) ?_
  rw [encV, if_neg (by omega)]
  by_cases h3 : 4096 < d.length
  · rw [if_pos h3]
    simp +contextual [m26r6, m26r7]
    refine fin_drop ?_
    simp only [appV, appL, h, Bool.true_eq_false, if_false, h2, if_pos h3]
    exact (CVs.cons (CVs.cons .nil0 (CVs.cons (.refl .int) (CVs.cons (.refl .int) .nil))).agg (CVs.cons (.refl .int) .nil)).tup
  · rw [if_neg h3]
    simp +contextual [m26r6, m26r7, m26r8, m26r9, m26r10, m26r11, m26r12]
    obtain ⟨x, H', hx, hsp⟩ := copied36o b (by simp [roomB]; omega) [ABlk.rows 0 3 [[AV.islice (rowsU8 b), AV.int IntKind.i64 s, AV.int IntKind.i64 c]],
      ABlk.rows 0 2 [[AV.int IntKind.u8 ↑k.toNat, AV.islice (rowsU8 d)]], ABlk.rows 0 3 [[AV.nils, AV.int IntKind.i64 0, AV.int IntKind.i64 0]]]
    have hlen : (encB c.toNat k d).length = 14 + d.length := by simp [encB, encH, numB_len]; omega
    refine vc_call hsp ?_
    have look : ∀ j (v : AV), ([AV.islice (rowsU8 b), AV.int .i64 s, AV.int .i64 c] : Row)[j]? = some v → ∀ H2 l y, Acc1 [ABlk.rows 0 3 [[AV.islice (rowsU8 b), AV.int IntKind.i64 s, AV.int IntKind.i64 c]],
      ABlk.rows 0 2 [[AV.int IntKind.u8 ↑k.toNat, AV.islice (rowsU8 d)]], ABlk.rows 0 3 [[AV.nils, AV.int IntKind.i64 0, AV.int IntKind.i64 0]]] 1 l y H2 → loadAV H2 none (.ptr 0 0 0 j) = some v := by
      intro j v hv H2 l y hy
      obtain ⟨N, rfl⟩ := hy.grown
      simpa using hv
    have k1 := look 1 _ rfl H' _ _ hx
    have k2 := look 2 _ rfl H' _ _ hx
    simp +contextual [-load_p, k1, k2]
    refine hx.append (x := .islice (rowsU8 (encB c.toNat k d))) rfl (rowsU8_row _) (by simp [roomB]; omega) fun y H2 hy => ?_
    rw [← rowsU8_append] at hy
    rcases hy with ⟨hl, _, _⟩ | ⟨g, rfl, rfl⟩
    · have := congrArg List.length hl
      simp [hlen] at this
    · simp +contextual
      refine fin_drop ?_
      simp only [appV, appL, h, Bool.true_eq_false, if_false, h2, if_neg h3]
      rw [wrp_i64 (by omega)]
      refine (CVs.cons (CVs.cons ?_ (CVs.cons (.refl .int) (CVs.cons (.refl .int) .nil))).agg (CVs.cons (.refl .int) .nil)).tup
      refine Own.freeze (J := _) (r := 3) (sz := 1) ?_ (rowsU8_plain _)
      rw [← List.length_append]
      exact own_bytes rfl
end Go.Ab.Try.S
