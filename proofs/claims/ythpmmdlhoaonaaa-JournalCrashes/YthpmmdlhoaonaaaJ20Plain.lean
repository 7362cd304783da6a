/- Logs: Valid, Append, Sync, Crash of the program and of the reference. Conditions: none. -/
import Derived.Test.YthpmmdlhoaonaaaJ20Enc2
import Derived.Test.YthpmmdlhoaonaaaJ20Lives
namespace Go.Ab.Try.S
open Go.Proofs

def logV (b : List UInt8) (s c : Int) : List AV := [.islice (rowsU8 b), .int .i64 s, .int .i64 c]
def validB (b : List UInt8) (s c : Int) : Bool := decide (0 ≤ s ∧ s ≤ (b.length : Int) ∧ 0 ≤ c ∧ c ≤ 1048576)
theorem cl_log (b : List UInt8) (s c : Int) : Cl 0 (.agg (logV b s c)) := (Cls.cons (cl_plain (rowsU8_plain b)) (Cls.cons .int (Cls.cons .int .nil))).agg

theorem valid27 (b : List UInt8) (s c : Int) : Spec Try.prog 27 [.agg (logV b s c)] [] (.bool (validB b s c)) [] := by
  refine spec_of_wp (C := Spec Try.prog) (fun _ _ _ _ _ h => h) mixed m27_ok (show 1 ≤ 24 by decide) ?_
  unfold m27
  simp +contextual [m27r0, m27r1, envOf, logV]
  refine fin_drop ?_
  have : validB b s c = (decide (0 ≤ s) && decide (s ≤ (b.length : Int)) && decide (0 ≤ c) && decide (c ≤ 1048576)) := by
    unfold validB; rw [Bool.eq_iff_iff]; simp [and_assoc]
  rw [this]
  exact .refl .bool
theorem rvalid28 (b : List UInt8) (s c : Int) : Spec Try.prog 28 [.agg (logV b s c)] [] (.bool (validB b s c)) [] := by
  refine spec_of_wp (C := Spec Try.prog) (fun _ _ _ _ _ h => h) mixed m28_ok (show 1 ≤ 24 by decide) ?_
  unfold m28
  simp +contextual [m28r0, m28r1, envOf, logV]
  refine fin_drop ?_
  have : validB b s c = (decide (0 ≤ s) && decide (s ≤ (b.length : Int)) && decide (0 ≤ c) && decide (c ≤ 1048576)) := by
    unfold validB; rw [Bool.eq_iff_iff]; simp [and_assoc]
  rw [this]
  exact .refl .bool

theorem copied36 (b : List UInt8) (hb : b.length ≤ roomB) : Spec Try.prog 36 [.islice (rowsU8 b)] [] (.islice (rowsU8 b)) [] := by
  refine spec_of_wp (C := Spec Try.prog) (fun _ _ _ _ _ h => h) mixed m36_ok (show 1 ≤ 7 by decide) ?_
  unfold m36
  simp [m36r0, m36r1, m36r2, envOf]
  refine W_app_nil rfl hb fun c H' h => ?_
  simp
  exact fin_acc h (rowsU8_row b) (rowsU8_plain b)

/-- The copy, as the caller's own. -/
theorem copied36o (b : List UInt8) (hb : b.length ≤ roomB) (H : Heap) : ∃ c H', Acc1 H 1 (rowsU8 b) c H' ∧ Spec Try.prog 36 [.islice (rowsU8 b)] H c H' := by
  cases b with
  | nil =>
    refine ⟨.nils, H, Acc1.nil, ?_⟩
    refine spec_of_wp (C := Spec Try.prog) (fun _ _ _ _ _ h => h) mixed m36_ok (show 1 ≤ 7 by decide) ?_
    unfold m36
    simp [m36r0, m36r1, m36r2, envOf]
    exact W_of (append_nil0 rfl) (by simp; exact fin_of rfl)
  | cons x b =>
    refine ⟨.slice H.length 0 0 (x :: b).length, H ++ [.rows 0 1 (rowsU8 (x :: b))], .inr ⟨0, by simp, rfl⟩, ?_⟩
    refine spec_of_wp (C := Spec Try.prog) (fun _ _ _ _ _ h => h) mixed m36_ok (show 1 ≤ 7 by decide) ?_
    unfold m36
    simp only [m36r0, m36r1, m36r2, envOf]
    simp
    refine W_of (append_nil (row := [.int .u8 x.toNat]) (rest := rowsU8 b) rfl (rowsU8_row (x :: b)) (by simp at hb ⊢; omega)) ?_
    simp
    exact fin_of rfl

theorem samelog23 (a b : List UInt8) (s c s' c' : Int) : Spec Try.prog 23 [.agg (logV a s c), .agg (logV b s' c')] [] (.bool (decide (a = b ∧ s = s' ∧ c = c'))) [] := by
  refine spec_of_wp (C := Spec Try.prog) (fun _ _ _ _ _ h => h) mixed m23_ok (show 2 ≤ 26 by decide) ?_
  unfold m23
  simp +contextual [m23r0, m23r1, envOf, logV, bytesOf_rowsU8]
  exact fin_drop (by rw [Bool.and_assoc]; exact .refl .bool)

def syncV (b : List UInt8) (s c : Int) : AV := if validB b s c = true then .agg (logV b b.length c) else .agg (logV [] 0 0)

theorem sync29 (b : List UInt8) (s c : Int) (hb : b.length ≤ roomB) : Spec Try.prog 29 [.agg (logV b s c)] [] (syncV b s c) [] := by
  refine spec_of_wp (C := Spec Try.prog) (fun _ _ _ _ _ h => h) mixed m29_ok (show 1 ≤ 16 by decide) ?_
  unfold m29
  simp +contextual [m29r0, m29r1, envOf, logV]
  refine vc_call ((valid27 b s c).frame (Cls.cons (cl_log b s c) .nil) .bool _) ?_
  simp +contextual [m29r2, m29r3, m29r4]
  refine ⟨fun h => fin_drop ?_, fun h => ?_⟩
  · rw [syncV, if_neg (by rw [h]; simp)]
    exact (CVs.cons .nil0 (CVs.cons (.refl .int) (CVs.cons (.refl .int) .nil))).agg
  · refine W_app_nil rfl hb fun x H' hx => ⟨hx.grown, ?_⟩
    rw [syncV, if_pos h]
    have hfz := hx.freeze (rowsU8_row b) (rowsU8_plain b)
    rcases hx with ⟨hl, rfl, rfl⟩ | ⟨g, rfl, rfl⟩
    · simp +contextual
      have : b = [] := by cases b; rfl; simp [rowsU8] at hl
      subst this
      exact fin_drop (CVs.cons .nil0 (CVs.cons (.refl .int) (CVs.cons (.refl .int) .nil))).agg
    · simp +contextual
      refine fin_drop (CVs.cons ?_ (CVs.cons (.refl .int) (CVs.cons (.refl .int) .nil))).agg
      have := (own_bytes (r := 2) (g := g) (b := b) (H := [ABlk.rows 0 3 [[AV.islice (rowsU8 b), AV.int .i64 s, AV.int .i64 c]], .rows 0 3 [[.slice 2 g 0 b.length, .int .i64 b.length, .int .i64 c]], .rows g 1 (rowsU8 b)]) rfl).freeze (rowsU8_plain b)
      exact this

theorem rsync30 (b : List UInt8) (s c : Int) (hb : b.length ≤ roomB) : Spec Try.prog 30 [.agg (logV b s c)] [] (syncV b s c) [] := by
  refine spec_of_wp (C := Spec Try.prog) (fun _ _ _ _ _ h => h) mixed m30_ok (show 1 ≤ 16 by decide) ?_
  unfold m30
  simp +contextual [m30r0, m30r1, envOf, logV]
  refine vc_call ((rvalid28 b s c).frame (Cls.cons (cl_log b s c) .nil) .bool _) ?_
  simp +contextual [m30r2, m30r3, m30r4]
  refine ⟨fun h => fin_drop ?_, fun h => ?_⟩
  · rw [syncV, if_neg (by rw [h]; simp)]
    exact (CVs.cons .nil0 (CVs.cons (.refl .int) (CVs.cons (.refl .int) .nil))).agg
  · refine vc_call ((copied36 b hb).frame (Cls.cons (cl_plain (rowsU8_plain b)) .nil) (cl_plain (rowsU8_plain b)) _) ?_
    rw [syncV, if_pos h]
    simp +contextual
    exact fin_drop (CVs.cons (.refl (cl_plain (rowsU8_plain b))) (CVs.cons (.refl .int) (CVs.cons (.refl .int) .nil))).agg

/-- What a crash leaves. -/
def crashB (b : List UInt8) (s c keep : Int) : List UInt8 := if validB b s c = true then b.take (max s (min keep b.length)).toNat else []

theorem rowsU8_take (b : List UInt8) (n : Nat) : (rowsU8 b).take n = rowsU8 (b.take n) := by simp [rowsU8, List.map_take]
theorem rowsU8_drop (b : List UInt8) (n : Nat) : (rowsU8 b).drop n = rowsU8 (b.drop n) := by simp [rowsU8, List.map_drop]

theorem validB_ok {b : List UInt8} {s c : Int} (h : validB b s c = true) : 0 ≤ s ∧ s ≤ (b.length : Int) ∧ 0 ≤ c ∧ c ≤ 1048576 := by simpa [validB] using h

theorem crash24 (b : List UInt8) (s c keep : Int) (hb : b.length ≤ roomB) : Spec Try.prog 24 [.agg (logV b s c), .int .i64 keep] [] (.islice (rowsU8 (crashB b s c keep))) [] := by
  refine spec_of_wp (C := Spec Try.prog) (fun _ _ _ _ _ h => h) mixed m24_ok (show 2 ≤ 20 by decide) ?_
  unfold m24
  simp +contextual [m24r0, m24r1, envOf, logV]
  refine vc_call ((valid27 b s c).frame (Cls.cons (cl_log b s c) .nil) .bool _) ?_
  simp +contextual [m24r2, m24r3]
  refine ⟨fun h => fin_drop ?_, fun h => ?_⟩
  · rw [crashB, if_neg (by rw [h]; simp)]
    exact .nil0
  · have hv := validB_ok h
    rw [crashB, if_pos h]
    generalize hn : max s (min keep (b.length : Int)) = n
    have h0 : 0 ≤ n ∧ n ≤ (b.length : Int) := by omega
    refine ⟨h0.1, ⟨by omega, rowsU8_row b⟩, ?_⟩
    rw [rowsU8_take]
    refine W_app_nil rfl (by simp; omega) fun x H' hx => ?_
    simp
    exact fin_acc hx (rowsU8_row _) (rowsU8_plain _)

theorem rcrash31 (b : List UInt8) (s c keep : Int) (hb : b.length ≤ roomB) : Spec Try.prog 31 [.agg (logV b s c), .int .i64 keep] [] (.islice (rowsU8 (crashB b s c keep))) [] := by
  refine spec_of_wp (C := Spec Try.prog) (fun _ _ _ _ _ h => h) mixed m31_ok (show 2 ≤ 25 by decide) ?_
  unfold m31
  simp +contextual [m31r0, m31r1, envOf, logV]
  refine vc_call ((rvalid28 b s c).frame (Cls.cons (cl_log b s c) .nil) .bool _) ?_
  simp +contextual [m31r2, m31r3, m31r4, m31r5, m31r6]
  refine ⟨fun h => fin_drop ?_, fun h => ?_⟩
  · rw [crashB, if_neg (by rw [h]; simp)]
    exact .nil0
  · have hv := validB_ok h
    rw [crashB, if_pos h]
    have hcl : ∀ n, Cls 0 [AV.islice (rowsU8 (b.take n))] := fun n => Cls.cons (cl_plain (rowsU8_plain (b.take n))) .nil
    refine ⟨fun hlt => ⟨hv.1, ⟨hv.2.1, rowsU8_row b⟩, ?_⟩, fun hle => ⟨by omega, ⟨by omega, rowsU8_row b⟩, ?_⟩⟩
    · rw [rowsU8_take, show max s (min keep (b.length : Int)) = s by omega]
      refine vc_call ((copied36 (b.take s.toNat) (by simp; omega)).frame (hcl _) (cl_plain (rowsU8_plain _)) _) ?_
      simp
      exact fin_drop (.refl (cl_plain (rowsU8_plain _)))
    · rw [rowsU8_take, show max s (min keep (b.length : Int)) = min keep (b.length : Int) by omega]
      refine vc_call ((copied36 (b.take (min keep (b.length : Int)).toNat) (by simp; omega)).frame (hcl _) (cl_plain (rowsU8_plain _)) _) ?_
      simp
      exact fin_drop (.refl (cl_plain (rowsU8_plain _)))

/-- What an append comes to: the log's bytes, Synced and Count, and the error. -/
def appL (b : List UInt8) (s c : Int) (k : UInt8) (d : List UInt8) : List UInt8 × Int × Int × Nat :=
  if validB b s c = false then ([], 0, 0, 2) else if c = 1048576 then ([], 0, 0, 10) else if 4096 < d.length then ([], 0, 0, 4) else (b ++ encB c.toNat k d, s, c + 1, 0)
def appV (b : List UInt8) (s c : Int) (k : UInt8) (d : List UInt8) : AV := .tup [.agg (logV (appL b s c k d).1 (appL b s c k d).2.1 (appL b s c k d).2.2.1), .int .u8 ((appL b s c k d).2.2.2 : Nat)]

theorem append25 (b : List UInt8) (s c : Int) (k : UInt8) (d : List UInt8) (hb : b.length ≤ 1000000000) (hd : d.length ≤ 1000000) : Spec Try.prog 25 [.agg (logV b s c), .agg (recV k d)] [] (appV b s c k d) [] := by
  refine spec_of_wp (C := Spec Try.prog) (fun _ _ _ _ _ h => h) mixed m25_ok (show 2 ≤ 40 by decide) ?_
  unfold m25
  simp +contextual [m25r0, m25r1, envOf, logV, recV]
  refine vc_call ((valid27 b s c).frame (Cls.cons (cl_log b s c) .nil) .bool _) ?_
  simp +contextual [m25r2, m25r3, m25r4, m25r5]
  refine ⟨fun h => fin_drop ?_, fun h => ⟨fun h2 => fin_drop ?_, fun h2 => ?_⟩⟩
  · simp only [appV, appL, if_pos h]
    exact (CVs.cons (CVs.cons .nil0 (CVs.cons (.refl .int) (CVs.cons (.refl .int) .nil))).agg (CVs.cons (.refl .int) .nil)).tup
  · subst h2
    simp only [appV, appL, h, Bool.true_eq_false, if_false, if_true]
    exact (CVs.cons (CVs.cons .nil0 (CVs.cons (.refl .int) (CVs.cons (.refl .int) .nil))).agg (CVs.cons (.refl .int) .nil)).tup
  have hv := validB_ok h
  refine vc_call ((encode12 c k d hd).frame (Cls.cons .int (Cls.cons (cl_rec k d) .nil)) (by
    unfold encV; split
    · exact (Cls.cons (cl_plain (rowsU8_plain [])) (Cls.cons .int .nil)).tup
    · split
      · exact (Cls.cons (cl_plain (rowsU8_plain [])) (Cls.cons .int .nil)).tup
      · exact (Cls.cons (cl_plain (rowsU8_plain _)) (Cls.cons .int .nil)).tup) _) ?_
  rw [encV, if_neg (by omega)]
  by_cases h3 : 4096 < d.length
  · rw [if_pos h3]
    simp +contextual [m25r6, m25r7]
    refine fin_drop ?_
    simp only [appV, appL, h, Bool.true_eq_false, if_false, h2, if_pos h3]
    exact (CVs.cons (CVs.cons .nil0 (CVs.cons (.refl .int) (CVs.cons (.refl .int) .nil))).agg (CVs.cons (.refl .int) .nil)).tup
  · rw [if_neg h3]
    simp +contextual [m25r6, m25r7, m25r8]
    have hlen : (encB c.toNat k d).length = 14 + d.length := by simp [encB, encH, numB_len]; omega
    refine W_app_nil rfl (by simp [roomB]; omega) fun x H' hx => ?_
    refine hx.append (x := .islice (rowsU8 (encB c.toNat k d))) rfl (rowsU8_row _) (by simp [roomB]; omega) fun y H2 hy => ?_
    rw [← rowsU8_append] at hy
    rcases hy with ⟨hl, _, _⟩ | ⟨g, rfl, rfl⟩
    · have := congrArg List.length hl
      simp [hlen] at this
    · simp +contextual [m25r9, m25r10]
      refine fin_drop ?_
      simp only [appV, appL, h, Bool.true_eq_false, if_false, h2, if_neg h3]
      rw [wrp_i64 (by omega)]
      refine (CVs.cons (CVs.cons ?_ (CVs.cons (.refl .int) (CVs.cons (.refl .int) .nil))).agg (CVs.cons (.refl .int) .nil)).tup
      refine Own.freeze (J := _) (r := 3) (sz := 1) ?_ (rowsU8_plain _)
      rw [← List.length_append]
      exact own_bytes rfl

theorem cl_encV' (n : Int) (k : UInt8) (d : List UInt8) : Cl 0 (encV n k d) := by
  unfold encV; split
  · exact (Cls.cons (cl_plain (rowsU8_plain [])) (Cls.cons .int .nil)).tup
  · split
    · exact (Cls.cons (cl_plain (rowsU8_plain [])) (Cls.cons .int .nil)).tup
    · exact (Cls.cons (cl_plain (rowsU8_plain _)) (Cls.cons .int .nil)).tup

theorem rappend26 (b : List UInt8) (s c : Int) (k : UInt8) (d : List UInt8) (hb : b.length ≤ 1000000000) (hd : d.length ≤ 1000000) : Spec Try.prog 26 [.agg (logV b s c), .agg (recV k d)] [] (appV b s c k d) [] := by
  refine spec_of_wp (C := Spec Try.prog) (fun _ _ _ _ _ h => h) mixed m26_ok (show 2 ≤ 38 by decide) ?_
  unfold m26
  simp +contextual [m26r0, m26r1, envOf, logV, recV]
  refine vc_call ((rvalid28 b s c).frame (Cls.cons (cl_log b s c) .nil) .bool _) ?_
  simp +contextual [m26r2, m26r3, m26r4, m26r5]
  refine ⟨fun h => fin_drop ?_, fun h => ⟨fun h2 => fin_drop ?_, fun h2 => ?_⟩⟩
  · simp only [appV, appL, if_pos h]
    exact (CVs.cons (CVs.cons .nil0 (CVs.cons (.refl .int) (CVs.cons (.refl .int) .nil))).agg (CVs.cons (.refl .int) .nil)).tup
  · subst h2
    simp only [appV, appL, h, Bool.true_eq_false, if_false, if_true]
    exact (CVs.cons (CVs.cons .nil0 (CVs.cons (.refl .int) (CVs.cons (.refl .int) .nil))).agg (CVs.cons (.refl .int) .nil)).tup
  have hv := validB_ok h
  refine vc_call ((rencode13 c k d hd).frame (Cls.cons .int (Cls.cons (cl_rec k d) .nil)) (cl_encV' c k d) _) ?_
  rw [encV, if_neg (by omega)]
  by_cases h3 : 4096 < d.length
  · rw [if_pos h3]
    simp +contextual [m26r6, m26r7]
    refine fin_drop ?_
    simp only [appV, appL, h, Bool.true_eq_false, if_false, h2, if_pos h3]
    exact (CVs.cons (CVs.cons .nil0 (CVs.cons (.refl .int) (CVs.cons (.refl .int) .nil))).agg (CVs.cons (.refl .int) .nil)).tup
  · rw [if_neg h3]
    simp +contextual [m26r6, m26r7, m26r8, m26r9, m26r10, m26r11, m26r12]
    obtain ⟨x, H', hx, hsp⟩ := copied36o b (by simp [roomB]; omega) [ABlk.rows 0 3 [[AV.islice (rowsU8 b), AV.int IntKind.i64 s, AV.int IntKind.i64 c]],
      ABlk.rows 0 2 [[AV.int IntKind.u8 ↑k.toNat, AV.islice (rowsU8 d)]], ABlk.rows 0 3 [[AV.nils, AV.int IntKind.i64 0, AV.int IntKind.i64 0]]]
    have hlen : (encB c.toNat k d).length = 14 + d.length := by simp [encB, encH, numB_len]; omega
    refine vc_call hsp ?_
    have look : ∀ j (v : AV), ([AV.islice (rowsU8 b), AV.int .i64 s, AV.int .i64 c] : Row)[j]? = some v → ∀ H2 l y, Acc1 [ABlk.rows 0 3 [[AV.islice (rowsU8 b), AV.int IntKind.i64 s, AV.int IntKind.i64 c]],
      ABlk.rows 0 2 [[AV.int IntKind.u8 ↑k.toNat, AV.islice (rowsU8 d)]], ABlk.rows 0 3 [[AV.nils, AV.int IntKind.i64 0, AV.int IntKind.i64 0]]] 1 l y H2 → loadAV H2 none (.ptr 0 0 0 j) = some v := by
      intro j v hv H2 l y hy
      obtain ⟨N, rfl⟩ := hy.grown
      simpa using hv
    have k1 := look 1 _ rfl H' _ _ hx
    have k2 := look 2 _ rfl H' _ _ hx
    simp +contextual [-load_p, k1, k2]
    refine hx.append (x := .islice (rowsU8 (encB c.toNat k d))) rfl (rowsU8_row _) (by simp [roomB]; omega) fun y H2 hy => ?_
    rw [← rowsU8_append] at hy
    rcases hy with ⟨hl, _, _⟩ | ⟨g, rfl, rfl⟩
    · have := congrArg List.length hl
      simp [hlen] at this
    · simp +contextual
      refine fin_drop ?_
      simp only [appV, appL, h, Bool.true_eq_false, if_false, h2, if_neg h3]
      rw [wrp_i64 (by omega)]
      refine (CVs.cons (CVs.cons ?_ (CVs.cons (.refl .int) (CVs.cons (.refl .int) .nil))).agg (CVs.cons (.refl .int) .nil)).tup
      refine Own.freeze (J := _) (r := 3) (sz := 1) ?_ (rowsU8_plain _)
      rw [← List.length_append]
      exact own_bytes rfl
end Go.Ab.Try.S

/- The header of a record: damaged, wrong. Conditions: none. -/
namespace Go.Ab.Try.S
open Go.Proofs

def wantB (n : Nat) : List UInt8 := 167 :: 0 :: numB n 4
def hdrBad (b : List UInt8) (n : Nat) : Bool := (List.range 6).any fun i => decide (i < b.length) && decide (i ≠ 1) && decide (gb b i ≠ gb (wantB n) i)
def wrongB (b : List UInt8) (n : Nat) : Bool :=
  hdrBad b n || (decide (8 ≤ b.length) && decide (4096 < 256 * gb b 6 + gb b 7)) || ((decide (9 ≤ b.length) && decide (gb b 8 ≠ 255 - gb b 6)) || (decide (10 ≤ b.length) && decide (gb b 9 ≠ 255 - gb b 7)))

theorem wantB_len (n : Nat) : (wantB n).length = 6 := by simp [wantB, numB_len]

theorem wrong38 (b : List UInt8) (n : Nat) (hn : n ≤ 1048576) (hb : b.length < 9223372036854775807) : Spec Try.prog 38 [.islice (rowsU8 b), .int .i64 n] [] (.bool (wrongB b n)) [] := by
  refine spec_of_wp (C := Spec Try.prog) (fun _ _ _ _ _ h => h) mixed m38_ok (show 2 ≤ _ by decide) ?_
  unfold m38
  simp [m38r0, m38r1, envOf]
  refine vc_call (number_in (by omega) (s := 4) (by omega) _) ?_
  simp
  refine W_app (rs := rowsU8 [167, 0]) rfl rfl (rowsU8_row _) (by simp [roomB, numB_len]) fun g => ?_
  rw [← rowsU8_append]
  simp [m38r2, numB_len]
  have hw : (167 : UInt8) :: 0 :: numB n 4 = wantB n := rfl
  rw [hw]
  have hwl := wantB_len n
  refine vc_loop (fun m σ H1 => ∃ i : Nat, m = 6 - i ∧ i ≤ 6 ∧ (∀ j, j < i → j < b.length → j ≠ 1 → gb b j = gb (wantB n) j) ∧ H1 = [.rows g 1 (rowsU8 (wantB n))] ∧ σ = [(0, .islice (rowsU8 b)), (5, .slice 0 g 0 6), (6, .int .i64 i)]) 6
    ⟨0, rfl, by omega, fun j h => by omega, rfl, rfl⟩ ?_
  rintro m σ H1 ⟨i, rfl, hi, hpre, rfl, rfl⟩
  simp +contextual (disch := first | trivial | assumption | omega | (simp +contextual; done) | (simp +contextual; omega)) [m38l8, m38r3, m38r4, iaddr_is, iaddr_sl, m38r5, m38r6, m38r7]
  refine ⟨fun h1 h2 => ⟨fun h3 h4 => fin_drop ?_, fun h3 => ⟨6 - (i + 1), by omega, i + 1, rfl, by omega, fun j hj hjb hj1 => ?_, by rw [wrp_i64 (by omega)]; rfl⟩⟩, fun h1 => ?_⟩
  · have : wrongB b n = true := by
      have : hdrBad b n = true := by
        unfold hdrBad
        rw [List.any_eq_true]
        exact ⟨i, List.mem_range.2 (by omega), by simp; exact ⟨⟨h2, by omega⟩, by omega⟩⟩
      simp [wrongB, this]
    rw [this]
    exact .refl .bool
  · by_cases e : j = i
    · subst e
      have := h3 (by omega)
      omega
    · exact hpre j (by omega) hjb hj1
  · have hh : hdrBad b n = false := by
      unfold hdrBad
      rw [List.any_eq_false]
      intro j hj
      have := List.mem_range.1 hj
      simp
      intro h2 h3
      exact hpre j (by omega) h2 h3
    have g6 := gb_lt b 6
    have g7 := gb_lt b 7
    have w1 : ∀ k, wrp .i64 (gb b k : Int) = (gb b k : Int) := fun k => wrp_i64 (by have := gb_lt b k; omega)
    have w2 : wrp .i64 (256 * (gb b 6 : Int)) = 256 * (gb b 6 : Int) := wrp_i64 (by omega)
    have w3 : wrp .i64 (256 * (gb b 6 : Int) + gb b 7) = 256 * (gb b 6 : Int) + gb b 7 := wrp_i64 (by omega)
    simp +contextual (disch := first | trivial | assumption | omega | (simp +contextual; done) | (simp +contextual; omega)) [m38r9, m38r10, m38r11, m38r12, m38r13, iaddr_is, w1, w2, w3]
    have w4 : wrp .i64 (255 - (gb b 6 : Int)) = 255 - (gb b 6 : Int) := wrp_i64 (by omega)
    have w5 : wrp .i64 (255 - (gb b 7 : Int)) = 255 - (gb b 7 : Int) := wrp_i64 (by omega)
    rw [w4, w5]
    refine ⟨fun h2 h3 => fin_bool ?_, fun h2 => fin_bool ?_⟩
    · rw [Bool.eq_iff_iff]; simp [wrongB, hh]; omega
    · rw [Bool.eq_iff_iff]; simp [wrongB, hh]; omega

theorem append_get {H N : Heap} {r : Nat} {b : ABlk} (h : H[r]? = some b) : (H ++ N)[r]? = some b := by
  rw [List.getElem?_append_left (List.getElem?_eq_some_iff.1 h).1]; exact h

theorem put_want (H : Heap) (n : Nat) (hn : n < 4294967296) : Spec Try.prog 32 [.slice H.length 0 0 2, .int .i64 4, .islice [[.int .u32 n]]] (H ++ [.rows 0 1 [[.int .u8 167], [.int .u8 0]]]) (.slice H.length 4 0 6) (H ++ [.rows 4 1 (rowsU8 (wantB n))]) := by
  have h := put_own (H := H ++ [.rows 0 1 (rowsU8 [167, 0])]) (r := H.length) (g := 0) (size := 4) (b := [167, 0]) (nums := [n]) (by simp) (by simp; omega) (by omega) (by simp) (by simp)
  have p1 : puts 4 [n] = numB n 4 := by simp [puts]
  have e1 : (H ++ [ABlk.rows 0 1 (rowsU8 [167, 0])]).set H.length (.rows 4 1 (rowsU8 (wantB n))) = H ++ [.rows 4 1 (rowsU8 (wantB n))] := by simp
  rw [p1, numB_len] at h
  rw [← e1]
  exact h

/-- The header of the record at the cursor. -/
theorem damaged_tail (H J : Heap) (b : List UInt8) (n : Nat) (x : Env) (hh : hdrBad b n = false) (hx : x.get 3 = .islice (rowsU8 b)) : wpC (Spec Try.prog) H ((MCode.dregion m37r11 m37r12 [] [3, 55]).seq (MCode.cond (Opd.tmp 55) ((MCode.region m37r13 [2]).seq MCode.ret) MCode.skip)) x (H ++ J)
    (seqK (Spec Try.prog) H ((MCode.dregion m37r14 m37r15 [] [2]).seq MCode.ret) fun e σ H1 => (e = Ex.normal ∨ e = Ex.ret) ∧ Fin H (σ.get 2) H1 (AV.bool (wrongB b n)) H) := by
  have g6 := gb_lt b 6
  have g7 := gb_lt b 7
  have w1 : ∀ k, wrp .i64 (gb b k : Int) = (gb b k : Int) := fun k => wrp_i64 (by have := gb_lt b k; omega)
  have w2 : wrp .i64 ((gb b 6 : Int) * 256) = (gb b 6 : Int) * 256 := wrp_i64 (by omega)
  have w3 : wrp .i64 ((gb b 6 : Int) * 256 + gb b 7) = (gb b 6 : Int) * 256 + gb b 7 := wrp_i64 (by omega)
  have w4 : min 8 (bitsOf .i64) = 8 := rfl
  have w5 : ∀ k, wrp .u8 ((toU .u8 (gb b k : Int) ^^^ mask .u8 : Nat) : Int) = 255 - (gb b k : Int) := fun k => not_u8 (gb_lt b k)
  generalize hG : H ++ J = G
  simp +contextual (disch := first | trivial | assumption | omega | (simp +contextual; done) | (simp +contextual; omega)) [m37r11, m37r12, m37r13, iaddr_is, w1, w2, w3, w4, hx]
  have fb : ∀ {x y : Bool}, x = y → Fin H (.bool x) G (.bool y) H := fun h => hG ▸ fin_bool_tmp h
  refine ⟨fun h1 h2 => fb ?_, fun h1 => ?_⟩
  · rw [Bool.eq_iff_iff]; simp [wrongB, hh]; omega
  · simp +contextual (disch := first | trivial | assumption | omega | (simp +contextual; done) | (simp +contextual; omega)) [m37r14, m37r15, iaddr_is, w5]
    refine fb ?_
    rw [Bool.eq_iff_iff]; simp [wrongB, hh]; omega

/-- The header of the record at the cursor. -/
theorem damaged37 (H : Heap) (r : Nat) (b : List UInt8) (n : Nat) (hr : H[r]? = some (.rows 0 2 [[.islice (rowsU8 b), .int .i64 n]])) (hn : n ≤ 1048576) (hb : b.length < 9223372036854775807) : Spec Try.prog 37 [.ptr r 0 0 0] H (.bool (wrongB b n)) H := by
  refine spec_of_wp (C := Spec Try.prog) (fun _ _ _ _ _ h => h) mixed m37_ok (show 1 ≤ _ by decide) ?_
  have hr1 := fun N : Heap => append_get (N := N) hr
  unfold m37
  simp [m37r0, m37r1, envOf, row_of hr]
  have e0 : wrp .u32 (n : Int) = (n : Int) := wrp_u32 (by omega)
  simp [m37r2, row_of (hr1 _), e0]
  have hlt := (List.getElem?_eq_some_iff.1 hr).1
  refine vc_call (put_want H n (by omega)) ?_
  have hwl := wantB_len n
  simp [m37r3, numB_len]
  have hm : min (b.length : Int) 6 = ((min b.length 6 : Nat) : Int) := by omega
  rw [hm]
  have ho : (H ++ [ABlk.rows 4 1 (rowsU8 (wantB n))])[H.length]? = some (.rows 4 1 (rowsU8 (wantB n))) := by simp
  refine vc_loop (fun m σ H1 => ∃ i : Nat, m = min b.length 6 - i ∧ i ≤ min b.length 6 ∧ (∀ j, j < i → j ≠ 1 → gb b j = gb (wantB n) j) ∧ H1 = H ++ [.rows 4 1 (rowsU8 (wantB n))] ∧
    σ = [(3, .islice (rowsU8 b)), (4, .slice H.length 4 0 6), (22, .int .i64 (min b.length 6 : Nat)), (23, .int .i64 i)]) (min b.length 6) ⟨0, by omega, by omega, fun j h => by omega, rfl, rfl⟩ ?_
  rintro m σ H1 ⟨i, rfl, hi, hpre, rfl, rfl⟩
  have hbr : ∀ k, k < b.length → k < (rowsU8 b).length := fun k h => by simpa using h
  simp +contextual (disch := first | trivial | assumption | omega | (simp +contextual; done) | (simp +contextual; omega)) [m37l10, m37r4, m37r5, m37r6, m37r7, m37r8, m37r9, iaddr_is, iaddr_sl, row_of ho]
  refine ⟨fun h1 => ⟨fun _ => by omega, fun _ => by omega, fun h3 h4 => fin_bool_tmp ?_, fun h3 => ⟨min b.length 6 - (i + 1), by omega, i + 1, rfl, by omega, fun j hj hj1 => ?_, by rw [wrp_i64 (by omega)]; rfl⟩⟩, fun h1 => ?_⟩
  · have : hdrBad b n = true := by
      unfold hdrBad
      rw [List.any_eq_true]
      exact ⟨i, List.mem_range.2 (by omega), by simp; exact ⟨⟨by omega, by omega⟩, by omega⟩⟩
    simp [wrongB, this]
  · by_cases e : j = i
    · subst e
      have := h3 (by omega)
      omega
    · exact hpre j (by omega) hj1
  · have hh : hdrBad b n = false := by
      unfold hdrBad
      rw [List.any_eq_false]
      intro j hj
      have := List.mem_range.1 hj
      simp
      intro h2 h3
      exact hpre j (by omega) h3
    exact damaged_tail H _ b n _ hh rfl
end Go.Ab.Try.S

/- One record: next, One. Conditions: none. -/
namespace Go.Ab.Try.S
open Go.Proofs

def sizeB (b : List UInt8) : Nat := 256 * gb b 6 + gb b 7
/-- The record with the number n at the front of b: its kind and data, or the error. -/
def oneB (b : List UInt8) (n : Nat) : (UInt8 × List UInt8) ⊕ Nat :=
  if 1048576 ≤ n ∨ wrongB b n = true then .inr 5
  else if b.length < 14 + sizeB b then .inr 6
  else if numB (crc (b.take (10 + sizeB b))) 4 ≠ (b.drop (10 + sizeB b)).take 4 then .inr 11
  else .inl (b.getD 1 0, (b.drop 10).take (sizeB b))

theorem oneB5 {b : List UInt8} {n : Nat} (h : 1048576 ≤ n ∨ wrongB b n = true) : oneB b n = .inr 5 := if_pos h
theorem oneB6 {b : List UInt8} {n : Nat} (h1 : n < 1048576) (h2 : wrongB b n = false) (h3 : b.length < 14 + sizeB b) : oneB b n = .inr 6 := by
  unfold oneB; rw [if_neg (by rw [h2]; simp; exact h1), if_pos h3]
theorem oneB11 {b : List UInt8} {n : Nat} (h1 : n < 1048576) (h2 : wrongB b n = false) (h3 : 14 + sizeB b ≤ b.length) (h4 : numB (crc (b.take (10 + sizeB b))) 4 ≠ (b.drop (10 + sizeB b)).take 4) : oneB b n = .inr 11 := by
  unfold oneB; rw [if_neg (by rw [h2]; simp; exact h1), if_neg (by omega), if_pos h4]
theorem oneB0 {b : List UInt8} {n : Nat} (h1 : n < 1048576) (h2 : wrongB b n = false) (h3 : 14 + sizeB b ≤ b.length) (h4 : numB (crc (b.take (10 + sizeB b))) 4 = (b.drop (10 + sizeB b)).take 4) : oneB b n = .inl (b.getD 1 0, (b.drop 10).take (sizeB b)) := by
  unfold oneB; rw [if_neg (by rw [h2]; simp; exact h1), if_neg (by omega), if_neg (by simp [h4])]

def curV (b : List UInt8) (n : Nat) : Row := [.islice (rowsU8 b), .int .i64 n]

theorem wrong_size {b : List UInt8} {n : Nat} (h : wrongB b n = false) (hl : 8 ≤ b.length) : sizeB b ≤ 4096 := by
  simp [wrongB] at h
  have := h.2
  unfold sizeB
  have := h.1.2 hl
  omega

def nextV (b : List UInt8) (n : Nat) : AV :=
  match oneB b n with
  | .inr e => .tup [.agg [.int .u8 0, .islice []], .int .u8 (e : Nat)]
  | .inl (k, d) => .tup [.agg (recV k d), .int .u8 0]
def nextH (H : Heap) (r : Nat) (b : List UInt8) (n : Nat) : Heap :=
  match oneB b n with
  | .inr _ => H
  | .inl (_, d) => H.set r (.rows 0 2 [curV (b.drop (14 + d.length)) (n + 1)])

theorem fin_err {H J : Heap} {e : Int} : Fin H (.tup [.agg [.int .u8 0, .nils], .int .u8 e]) (H ++ J) (.tup [.agg [.int .u8 0, .islice []], .int .u8 e]) H :=
  fin_tmp rfl (fun r b h => .inl h) (CVs.cons (CVs.cons (.refl .int) (CVs.cons .nil0 .nil)).agg (CVs.cons (.refl .int) .nil)).tup

theorem cur_cl (b : List UInt8) (n : Nat) (m : Nat) : BCl m (.rows 0 2 [curV b n]) := by
  refine .rows fun i row j c h1 h2 => ?_
  match i with
  | 0 =>
    simp at h1
    subst h1
    exact (Cls.cons (cl_plain (rowsU8_plain b)) (Cls.cons .int .nil) : Cls m (curV b n)) j c h2
  | i + 1 => simp at h1

/-- Facts of arithmetic, kept together (so that omega does not look into them). -/
structure NF (b : List UInt8) (S : Nat) : Prop where
  w1 : ∀ k, wrp .i64 (gb b k : Int) = (gb b k : Int)
  w2 : wrp .i64 ((gb b 6 : Int) * 256) = (gb b 6 : Int) * 256
  w3 : wrp .i64 (256 * (gb b 6 : Int)) = 256 * (gb b 6 : Int)
  w4 : min 8 (bitsOf .i64) = 8
  w5 : wrp .i64 (10 + (gb b 6 : Int) * 256) = 10 + (gb b 6 : Int) * 256
  w6 : wrp .i64 (10 + (gb b 6 : Int) * 256 + gb b 7) = 10 + (S : Int)
  w6' : wrp .i64 (256 * (gb b 6 : Int) + gb b 7) = (S : Int)
  w7 : wrp .i64 (10 + (S : Int) + 4) = 14 + (S : Int)
  w8 : wrp .i64 (10 + (S : Int)) = 10 + (S : Int)
  w9 : wrp .i64 (14 + (S : Int)) = 14 + (S : Int)
  w10 : wrp .i64 (10 + (S : Int) - 10) = (S : Int)

theorem next_facts (b : List UInt8) (h3 : 10 ≤ (b.length : Int)) (hs : sizeB b ≤ 4096) : ∃ S : Nat, S = sizeB b ∧ S ≤ 4096 ∧ NF b S ∧ (∀ k, k < 10 → (rowsU8 b)[k]? = some [.int .u8 (gb b k : Nat)]) ∧ (6 : Int) < b.length ∧ (7 : Int) < b.length ∧ (1 : Int) < b.length := by
  have g6 := gb_lt b 6
  have g7 := gb_lt b 7
  obtain ⟨S, hS⟩ : ∃ S, S = sizeB b := ⟨_, rfl⟩
  have hS2 : (S : Int) = 256 * (gb b 6 : Int) + gb b 7 := by rw [hS]; unfold sizeB; omega
  rw [← hS] at hs
  exact ⟨S, hS, hs, ⟨fun k => wrp_i64 (by have := gb_lt b k; omega), wrp_i64 (by omega), wrp_i64 (by omega), rfl, wrp_i64 (by omega), (wrp_i64 (by omega)).trans (by omega), (wrp_i64 (by omega)).trans (by omega), (wrp_i64 (by omega)).trans (by omega), wrp_i64 (by omega), wrp_i64 (by omega), (wrp_i64 (by omega)).trans (by omega)⟩, fun k hk => get_u8 (by omega), by omega, by omega, by omega⟩

theorem next_facts2 (b : List UInt8) (S : Nat) (h : 14 + S ≤ b.length) (hb : b.length < 9223372036854775807) : (0 : Int) ≤ 10 + (S : Int) ∧ (10 + (S : Int)).toNat = 10 + S ∧ 10 + S ≤ b.length ∧ (14 + (S : Int)).toNat = 14 + S ∧ (0 : Int) ≤ 14 + (S : Int) ∧ 14 + S - (10 + S) = 4 ∧ 10 + S ≤ 14 + S ∧ (b.take (10 + S)).length < 9223372036854775807 := by
  refine ⟨by omega, by omega, by omega, by omega, by omega, by omega, by omega, ?_⟩
  rw [List.length_take]; omega

theorem next34 (H : Heap) (r : Nat) (b : List UInt8) (n : Nat) (hr : H[r]? = some (.rows 0 2 [[.islice (rowsU8 b), .int .i64 n]])) (hn : n ≤ 1048576) (hb : b.length < 9223372036854775807) :
    Spec Try.prog 34 [.ptr r 0 0 0] H (nextV b n) (nextH H r b n) := by
  refine spec_of_wp (C := Spec Try.prog) (fun _ _ _ _ _ h => h) mixed m34_ok (show 1 ≤ _ by decide) ?_
  have hlt := (List.getElem?_eq_some_iff.1 hr).1
  have hr1 := fun N : Heap => append_get (N := N) hr
  unfold m34
  simp [m34r0, m34r1, envOf, row_of (hr1 _)]
  simp +contextual [m34r2, row_of (hr1 _)]
  refine gdG_call (v := .bool (wrongB b n)) (fun h => damaged37 _ r b n (hr1 _) (by omega) hb) ?_
  have c1 : ∀ m : Nat, (1048576 ≤ (m : Int)) ↔ 1048576 ≤ m := by intro m; omega
  simp +contextual [m34r3, m34r4, m34r5]
  refine ⟨fun h => ?_, fun h1 h2 => ⟨fun h3 => ?_, fun h3 => ?_⟩⟩
  · have : oneB b n = .inr 5 := oneB5 (by rcases h with h | h; exact .inl (by omega); exact .inr h)
    simp only [nextV, nextH, this]
    exact fin_err
  · have : oneB b n = .inr 6 := oneB6 (by omega) h2 (by omega)
    simp only [nextV, nextH, this]
    exact fin_err
  have hs := wrong_size h2 (by omega)
  obtain ⟨S, hS, hs', nf, hg, hl6, hl7, hl1⟩ := next_facts b h3 hs
  simp [m34r6, m34r7, iaddr_is, hg, hl6, hl7, nf.w1, nf.w2, nf.w4, nf.w5, nf.w6, -Int.natCast_add]
  simp +contextual [m34r8, m34r9, nf.w7]
  refine ⟨fun h4 => ?_, fun h4 => ?_⟩
  · have : oneB b n = .inr 6 := oneB6 (by omega) h2 (by omega)
    simp only [nextV, nextH, this]
    exact fin_err
  have hle : 14 + S ≤ b.length := by omega
  obtain ⟨q1, q2, q3, q4, q5, q6, q7, q8⟩ := next_facts2 b S hle hb
  simp [m34r10, q1, q2, q3, rowsU8_take]
  refine ⟨rowsU8_row b, ?_⟩
  refine vc_call ((check14 (b.take (10 + S)) q8).frame (Cls.cons (cl_plain (rowsU8_plain _)) .nil) .int _) ?_
  simp
  refine vc_call ((put_nil (size := 4) (nums := [crc (b.take (10 + S))]) (by simp; exact crc_lt _) (by omega) (by simp)).frame (Cls.cons .nils (Cls.cons .int (Cls.cons (.islice (by
    intro i row j c a1 a2
    match i with
    | 0 => simp [rowsU32] at a1; subst a1; match j with
      | 0 => simp at a2; subst a2; exact .int
      | j + 1 => simp at a2
    | i + 1 => simp [rowsU32] at a1)) .nil))) (cl_plain (rowsU8_plain _)) _) ?_
  have p3 : puts 4 [crc (b.take (10 + S))] = numB (crc (b.take (10 + S))) 4 := by simp [puts]
  rw [p3]
  simp [m34r11, m34r12, nf.w7, q1, q2, q3, q4, q5, q6, q7, bytesOf_rowsU8, rowsU8_take, rowsU8_drop, rowsU8_row, hle]
  refine ⟨rowsU8_row b, fun h5 => ?_, fun h5 => ?_⟩
  · have : oneB b n = .inr 11 := oneB11 (by omega) h2 (by omega) (by rw [← hS]; exact h5)
    simp [m34r13]
    simp only [nextV, nextH, this]
    exact fin_err
  have hone := oneB0 (b := b) (n := n) (by omega) h2 (by omega) (by rw [← hS]; exact h5)
  have hbz : (0 : Int) ≤ (S : Int) ∧ (S : Int) ≤ (roomB : Int) := by simp [roomB]; omega
  simp [m34r14, m34r15, iaddr_is, hg, hl1, nf.w10, hbz.1, hbz.2, putU]
  simp [m34r16, m34r17, m34r18, m34r19, m34r20, q1, q2, q3, rowsU8_take, rowsU8_drop, putU]
  have hdl : (b.drop 10).length = b.length - 10 := by simp
  have htl : ((b.drop 10).take S).length = S := by rw [List.length_take, hdl]; omega
  refine ⟨rowsU8_row b, W_of (copy_all (rs := List.replicate S [.int .u8 0]) (by rw [at_app]; rfl) rfl (rowsU8_row _) (by simpa using htl) (by simp)) ?_⟩
  have hr2 : ∀ (blk : ABlk) (N : Heap), (H.set r blk ++ N)[r]? = some blk := fun blk N => append_get (List.getElem?_set_self hlt)
  have hset2 : ∀ (x y : ABlk) (L : Heap), (H.set r x ++ L).set r y = H.set r y ++ L := fun x y L => by rw [set_appl (by simpa using hlt), List.set_set]
  have hset := fun (L : Heap) (x : ABlk) => set_appl (H := H) (L := L) (x := x) hlt
  simp [m34r21, q4, q5, hle, blkOf_of (hr1 _), hset, rowsU8_drop, nf.w7]
  refine ⟨rowsU8_row b, ?_⟩
  have hdr : (rowsU8 (b.drop (14 + S))).take (b.length - (14 + S)) = rowsU8 (b.drop (14 + S)) := List.take_of_length_le (by simp)
  rw [hdr]
  have hn1 : wrp .i64 ((n : Int) + 1) = (n : Int) + 1 := wrp_i64 (by omega)
  simp [m34r22, row_of (hr2 _ _), blkOf_of (hr2 _ _), hn1, hset2]
  have hNH : nextH H r b n = H.set r (.rows 0 2 [[.islice (rowsU8 (b.drop (14 + S))), .int .i64 ((n : Int) + 1)]]) := by
    unfold nextH
    rw [hone, ← hS]
    simp only [htl]
    rfl
  have hNV : nextV b n = .tup [.agg [.int .u8 (gb b 1 : Nat), .islice (rowsU8 ((b.drop 10).take S))], .int .u8 0] := by
    unfold nextV
    rw [hone, ← hS]
    rfl
  rw [hNH, hNV]
  have hbcl : BCl H.length (.rows 0 2 [[.islice (rowsU8 (b.drop (14 + S))), .int .i64 ((n : Int) + 1)]]) := cur_cl (b.drop (14 + S)) (n + 1) H.length
  have hold := set_old (H0 := H) (k := r) hbcl
  have hlen : (H.set r (.rows 0 2 [[.islice (rowsU8 (b.drop (14 + S))), .int .i64 ((n : Int) + 1)]])).length = H.length := by simp
  generalize H.set r (.rows 0 2 [[.islice (rowsU8 (b.drop (14 + S))), .int .i64 ((n : Int) + 1)]]) = H2 at hold hlen ⊢
  rw [← hlen]
  simp [m34r23]
  rw [hlen]
  refine fin_tmp hlen hold (CVs.cons (CVs.cons (.refl .int) (CVs.cons ?_ .nil)).agg (CVs.cons (.refl .int) .nil)).tup
  generalize (b.drop 10).take S = X at htl
  have := CV.freeze (n := H.length) (J := [ABlk.rows 0 2 [[AV.int .u8 ↑(gb b 1), AV.slice (H.length + 1) 0 0 S]], ABlk.rows 0 1 (rowsU8 X), ABlk.rows 0 2 [[AV.int .u8 ↑(gb b 1), AV.slice (H.length + 1) 0 0 S]]]) (ks := []) (k := 1) (g := 0) (s := 1) (a := 0) (m := S) (rs := rowsU8 X) rfl (by simp) (by simp; omega) (rowsU8_row _)
    (fun row hr c hc => ⟨(rowsU8_plain X row hr c hc).1, (rowsU8_plain X row hr c hc).2.mono (Nat.zero_le _)⟩)
  rw [List.drop_zero, List.take_of_length_le (by simp; omega)] at this
  exact this
end Go.Ab.Try.S

/- Scan of the program. Conditions: none. -/
namespace Go.Ab.Try.S
open Go.Proofs

abbrev Rcd := UInt8 × List UInt8
def recRows (l : List Rcd) : List Row := l.map fun r => recV r.1 r.2
theorem recRows_row (l : List Rcd) : ∀ row ∈ recRows l, row.length = 2 := by
  intro row h
  simp only [recRows, List.mem_map] at h
  obtain ⟨x, _, rfl⟩ := h
  rfl
theorem recRows_plain (l : List Rcd) : Plain (recRows l) := by
  intro row h c hc
  simp only [recRows, List.mem_map] at h
  obtain ⟨x, _, rfl⟩ := h
  simp only [recV, List.mem_cons, List.not_mem_nil, or_false] at hc
  rcases hc with rfl | rfl
  · exact ⟨rfl, .int⟩
  · exact ⟨rfl, cl_plain (rowsU8_plain _)⟩
@[simp] theorem recRows_len (l : List Rcd) : (recRows l).length = l.length := by simp [recRows]

/-- The records at the front, what is left, and the error. -/
def scanF : Nat → List UInt8 → Nat → List Rcd × List UInt8 × Nat
  | 0, b, _ => ([], b, 0)
  | f + 1, b, n => if b = [] then ([], b, 0) else match oneB b n with
    | .inr e => ([], b, e)
    | .inl (k, d) => ((k, d) :: (scanF f (b.drop (14 + d.length)) (n + 1)).1, (scanF f (b.drop (14 + d.length)) (n + 1)).2)
def scanB (b : List UInt8) : List Rcd × List UInt8 × Nat := scanF b.length b 0
def scanV (b : List UInt8) : AV := .tup [.islice (recRows (scanB b).1), .int .i64 ((b.length : Int) - ((scanB b).2.1.length : Nat)), .int .u8 ((scanB b).2.2 : Nat)]

theorem one_ok {b : List UInt8} {n : Nat} {k : UInt8} {d : List UInt8} (h : oneB b n = .inl (k, d)) : n < 1048576 ∧ 14 + d.length ≤ b.length ∧ d.length = sizeB b := by
  unfold oneB at h
  split at h
  · cases h
  rename_i h1
  split at h
  · cases h
  rename_i h2
  split at h
  · cases h
  cases h
  simp only [not_or] at h1
  have : ((b.drop 10).take (sizeB b)).length = sizeB b := by rw [List.length_take, List.length_drop]; omega
  refine ⟨by omega, by omega, this⟩

theorem one_err {b : List UInt8} {n e : Nat} (h : oneB b n = .inr e) : e ≠ 0 ∧ e < 256 := by
  unfold oneB at h
  split at h
  · cases h; omega
  split at h
  · cases h; omega
  split at h
  · cases h; omega
  · cases h

theorem cur_plain (b : List UInt8) (n : Nat) : Plain [[AV.islice (rowsU8 b), .int .i64 n]] := by
  intro row h c hc
  simp only [List.mem_cons, List.not_mem_nil, or_false] at h
  subst h
  simp only [List.mem_cons, List.not_mem_nil, or_false] at hc
  rcases hc with rfl | rfl
  · exact ⟨rfl, cl_plain (rowsU8_plain _)⟩
  · exact ⟨rfl, .int⟩

theorem scan18 (b : List UInt8) (hb : b.length < 9223372036854775807) : Spec Try.prog 18 [.islice (rowsU8 b)] [] (scanV b) [] := by
  refine spec_of_wp (C := Spec Try.prog) (fun _ _ _ _ _ h => h) mixed m18_ok (show 1 ≤ _ by decide) ?_
  unfold m18
  simp [m18r0, m18r1, m18r2, envOf]
  refine vc_loop (fun m σ H => ∃ (l : List Rcd) (rest : List UInt8) (f : Nat) (c : AV), m = rest.length ∧ l.length ≤ 1048576 ∧ rest.length ≤ f ∧ rest.length ≤ b.length ∧ scanB b = (l ++ (scanF f rest l.length).1, (scanF f rest l.length).2) ∧
    H[0]? = some (.rows 0 2 [[.islice (rowsU8 rest), .int .i64 (l.length : Nat)]]) ∧ AccL 2 (recRows l) c H ∧ (∀ r g a n, c = .slice r g a n → r ≠ 0) ∧ σ = [(0, .islice (rowsU8 b)), (5, .ptr 0 0 0 0), (6, c)]) b.length
    ⟨[], b, b.length, .nils, rfl, by simp, by omega, by omega, rfl, rfl, .inl ⟨rfl, rfl⟩, fun _ _ _ _ h => (by cases h), rfl⟩ ?_
  rintro m σ H ⟨l, rest, f, c, rfl, hl, hf, hrb, hscan, hcur, hacc, hc0, rfl⟩
  simp [m18l9]
  have conv : ∃ c' H', Conv [] [(0, .islice (rowsU8 b)), (5, .ptr 0 0 0 0), (6, c)] H [(0, .islice (rowsU8 b)), (5, .ptr 0 0 0 0), (6, c')] H' ∧ Acc1 [.rows 0 2 [[.islice (rowsU8 rest), .int .i64 (l.length : Nat)]]] 2 (recRows l) c' H' := by
    rcases hacc with ⟨h1, rfl⟩ | ⟨r, g, rfl, hr⟩
    · refine ⟨.nils, [.rows 0 2 [[.islice (rowsU8 rest), .int .i64 (l.length : Nat)]]], conv_pick1 hcur (by simp) (cur_plain _ _) ?_, .inl ⟨h1, rfl, rfl⟩⟩
      simp
      exact ⟨.refl (cl_plain (rowsU8_plain b)), cv_ptr rfl, .refl .nils⟩
    · refine ⟨.slice 1 g 0 (recRows l).length, [.rows 0 2 [[.islice (rowsU8 rest), .int .i64 (l.length : Nat)]], .rows g 2 (recRows l)], conv_pick2 hcur (by simp) (cur_plain _ _) hr (recRows_row l) (recRows_plain l) (Ne.symm (hc0 _ _ _ _ rfl)) ?_, .inr ⟨g, rfl, rfl⟩⟩
      simp
      exact ⟨.refl (cl_plain (rowsU8_plain b)), cv_ptr rfl, cv_slice rfl⟩
  obtain ⟨c', H', hconv, hacc'⟩ := conv
  refine vc_conv hconv ?_
  have hnc : ∀ k d, Cl 0 (.agg (recV k d)) := cl_rec
  have nx := fun N => next34 (.rows 0 2 [[.islice (rowsU8 rest), .int .i64 (l.length : Nat)]] :: N) 0 rest l.length rfl hl (by omega)
  -- the end of the bytes
  have done : rest = [] → scanB b = (l, rest, 0) := by
    intro h
    subst h
    rw [hscan]
    cases f <;> simp [scanF]
  have fin0 : ∀ (c : AV) (H : Heap), AccL 2 (recRows l) c H → rest = [] → Fin [] (.tup [c, .int .i64 (b.length : Nat), .int .u8 0]) H (scanV b) [] := by
    intro c H hc h
    unfold scanV
    rw [done h]
    simp only [h, List.length_nil, Int.natCast_zero, Int.sub_zero]
    exact fin_drop (CVs.cons (hc.freeze (recRows_row l) (recRows_plain l)) (CVs.cons (.refl .int) (CVs.cons (.refl .int) .nil))).tup
  have finE : ∀ (c : AV) (H : Heap) (e : Nat), AccL 2 (recRows l) c H → rest ≠ [] → oneB rest l.length = .inr e → Fin [] (.tup [c, .int .i64 ((b.length : Int) - rest.length), .int .u8 (e : Nat)]) H (scanV b) [] := by
    intro c H e hc h ho
    obtain ⟨f', rfl⟩ : ∃ f', f = f' + 1 := ⟨f - 1, by have := List.length_pos_iff.2 h; omega⟩
    have : scanB b = (l, rest, e) := by
      rw [hscan]
      simp [scanF, h, ho]
    unfold scanV
    rw [this]
    exact fin_drop (CVs.cons (hc.freeze (recRows_row l) (recRows_plain l)) (CVs.cons (.refl .int) (CVs.cons (.refl .int) .nil))).tup
  have step : ∀ (c2 : AV) (H2 : Heap) (k : UInt8) (d : List UInt8), oneB rest l.length = .inl (k, d) → rest ≠ [] → H2[0]? = some (.rows 0 2 [curV (rest.drop (14 + d.length)) (l.length + 1)]) → AccL 2 (recRows (l ++ [(k, d)])) c2 H2 →
      (∀ r g a n, c2 = .slice r g a n → r ≠ 0) → ∃ m, m < rest.length ∧ ∃ (l' : List Rcd) (rest' : List UInt8), m = rest'.length ∧ l'.length ≤ 1048576 ∧ ∃ x, rest'.length ≤ x ∧ rest'.length ≤ b.length ∧
        scanB b = (l' ++ (scanF x rest' l'.length).1, (scanF x rest' l'.length).2) ∧ H2[0]? = some (.rows 0 2 [[.islice (rowsU8 rest'), .int .i64 (l'.length : Nat)]]) ∧ AccL 2 (recRows l') c2 H2 ∧ ∀ r g a n, c2 = .slice r g a n → ¬r = 0 := by
    intro c2 H2 k d ho hne h1 h2 h3
    obtain ⟨f', rfl⟩ : ∃ f', f = f' + 1 := ⟨f - 1, by have := List.length_pos_iff.2 hne; omega⟩
    obtain ⟨k1, k2, k3⟩ := one_ok ho
    have hdl : (rest.drop (14 + d.length)).length = rest.length - (14 + d.length) := by simp
    refine ⟨(rest.drop (14 + d.length)).length, by omega, l ++ [(k, d)], rest.drop (14 + d.length), rfl, by simp; omega, f', by omega, by omega, ?_, by simpa [curV] using h1, h2, h3⟩
    rw [hscan]
    simp [scanF, hne, ho]
  have w0 : wrp .i64 ((b.length : Int) - rest.length) = (b.length : Int) - rest.length := wrp_i64 (by omega)
  rcases hacc' with ⟨hl0, rfl, rfl⟩ | ⟨g, rfl, rfl⟩
  · simp [m18r3, m18r4, m18r10]
    refine ⟨fun hpos => ?_, fun hz => fin0 _ _ (.inl ⟨hl0, rfl⟩) hz⟩
    refine vc_call (nx []) ?_
    have hne : rest ≠ [] := fun h => by rw [h] at hpos; simp at hpos
    unfold nextV nextH
    cases ho : oneB rest l.length with
    | inr e =>
      have he := one_err ho
      have he0 : ¬ (e : Int) = 0 := by omega
      simp +contextual [m18r5, m18r6, m18r7, he0, w0, he.1]
      exact finE _ _ e (.inl ⟨hl0, rfl⟩) hne ho
    | inl kd =>
      obtain ⟨k, d⟩ := kd
      simp [m18r5, m18r8, recV]
      refine W_of (append_nil (row := recV k d) (rest := []) rfl (by intro q hq; simp at hq; subst hq; rfl) (by simp [roomB])) ?_
      have hl1 : l = [] := by cases l; rfl; simp [recRows] at hl0
      refine step _ _ k d ho hne rfl (.inr ⟨2, 0, by subst hl1; rfl, by subst hl1; rfl⟩) (fun r g a n h => by cases h; simp)
  · simp [m18r3, m18r4, m18r10]
    refine ⟨fun hpos => ?_, fun hz => fin0 _ _ (.inr ⟨1, g, by simp, rfl⟩) hz⟩
    refine vc_call (nx _) ?_
    have hne : rest ≠ [] := fun h => by rw [h] at hpos; simp at hpos
    unfold nextV nextH
    cases ho : oneB rest l.length with
    | inr e =>
      have he := one_err ho
      have he0 : ¬ (e : Int) = 0 := by omega
      simp +contextual [m18r5, m18r6, m18r7, he0, w0, he.1]
      exact finE _ _ e (.inr ⟨1, g, by simp, rfl⟩) hne ho
    | inl kd =>
      obtain ⟨k, d⟩ := kd
      simp [m18r5, m18r8, recV]
      have e1 : (AV.slice 1 g 0 l.length) = .slice 1 g 0 (recRows l).length := by simp
      rw [e1]
      refine W_app (rs := recRows l) (news := [recV k d]) rfl rfl (by intro q hq; simp at hq; subst hq; rfl) (by simp [roomB]; omega) fun g' => ?_
      have e2 : recRows l ++ [recV k d] = recRows (l ++ [(k, d)]) := by simp [recRows]
      rw [e2]
      refine step _ _ k d ho hne rfl (.inr ⟨1, g', by simp, rfl⟩) (fun r g a n h => by cases h; simp)
end Go.Ab.Try.S

/- Plain facts of records as bytes. Conditions: none. -/
namespace Go.Ab.Try.S

theorem u8_eq {a b : UInt8} (h : a.toNat = b.toNat) : a = b := UInt8.toNat_inj.1 h

theorem take_eq_of {a b : List UInt8} {n : Nat} (hb : b.length = n) (ha : n ≤ a.length) (h : ∀ j, j < n → gb a j = gb b j) : a.take n = b := by
  apply List.ext_getElem
  · simp; omega
  · intro i h1 h2
    have := h i (by omega)
    simp only [gb, List.getD_eq_getElem?_getD] at this
    rw [List.getElem?_eq_getElem (by simp at h1; omega), List.getElem?_eq_getElem h2] at this
    simp only [Option.getD_some] at this
    rw [List.getElem_take]
    exact u8_eq this

theorem gb_of_take {a b : List UInt8} {n : Nat} (h : a.take n = b) : ∀ j, j < n → gb a j = gb b j := by
  intro j hj
  subst h
  simp only [gb, List.getD_eq_getElem?_getD, List.getElem?_take, if_pos hj]

theorem head_eq {b : List UInt8} {n : Nat} (h : wrongB b n = false) (hl : 10 ≤ b.length) (hS : 10 + sizeB b ≤ b.length) : b.take (10 + sizeB b) = encH n (b.getD 1 0) ((b.drop 10).take (sizeB b)) := by
  match b, hl with
  | b0 :: b1 :: b2 :: b3 :: b4 :: b5 :: b6 :: b7 :: b8 :: b9 :: t, _ =>
    simp only [wrongB, Bool.or_eq_false_iff, Bool.and_eq_false_iff] at h
    obtain ⟨⟨h1, h2⟩, h3, h4⟩ := h
    have hd : ∀ i, i < 6 → i ≠ 1 → gb (b0 :: b1 :: b2 :: b3 :: b4 :: b5 :: b6 :: b7 :: b8 :: b9 :: t) i = gb (wantB n) i := by
      intro i hi hi1
      unfold hdrBad at h1
      rw [List.any_eq_false] at h1
      have := h1 i (List.mem_range.2 hi)
      simp at this
      exact this (by omega) hi1
    have e0 := hd 0 (by omega) (by omega)
    have e2 := hd 2 (by omega) (by omega)
    have e3 := hd 3 (by omega) (by omega)
    have e4 := hd 4 (by omega) (by omega)
    have e5 := hd 5 (by omega) (by omega)
    simp only [gb, wantB, numB, List.getD_cons_zero, List.getD_cons_succ] at e0 e2 e3 e4 e5
    have hsz : sizeB (b0 :: b1 :: b2 :: b3 :: b4 :: b5 :: b6 :: b7 :: b8 :: b9 :: t) = 256 * b6.toNat + b7.toNat := by simp [sizeB, gb]
    rw [hsz] at hS ⊢
    have l6 := b6.toNat_lt
    have l7 := b7.toNat_lt
    simp [gb] at h3 h4
    have hlen : (t.take (256 * b6.toNat + b7.toNat)).length = 256 * b6.toNat + b7.toNat := by
      rw [List.length_take]; simp at hS; omega
    have q6 : b6 = UInt8.ofNat ((256 * b6.toNat + b7.toNat) / 256 ^ 1 % 256) := u8_eq (by simp; omega)
    have q7 : b7 = UInt8.ofNat ((256 * b6.toNat + b7.toNat) / 256 ^ 0 % 256) := u8_eq (by simp)
    have q8 : b8 = UInt8.ofNat ((65535 - (256 * b6.toNat + b7.toNat)) / 256 ^ 1 % 256) := u8_eq (by simp; omega)
    have q9 : b9 = UInt8.ofNat ((65535 - (256 * b6.toNat + b7.toNat)) / 256 ^ 0 % 256) := u8_eq (by simp; omega)
    have et : (b0 :: b1 :: b2 :: b3 :: b4 :: b5 :: b6 :: b7 :: b8 :: b9 :: t).take (10 + (256 * b6.toNat + b7.toNat)) = b0 :: b1 :: b2 :: b3 :: b4 :: b5 :: b6 :: b7 :: b8 :: b9 :: t.take (256 * b6.toNat + b7.toNat) := by
      rw [show 10 + (256 * b6.toNat + b7.toNat) = (256 * b6.toNat + b7.toNat) + 10 by omega]
      rfl
    rw [et]
    have r0 := u8_eq e0
    have r2 := u8_eq e2
    have r3 := u8_eq e3
    have r4 := u8_eq e4
    have r5 := u8_eq e5
    simp only [encH, numB, List.drop_succ_cons, List.drop_zero, hlen, List.getD_cons_succ, List.getD_cons_zero, List.cons_append, List.nil_append]
    rw [← q6, ← q7, ← q8, ← q9, r0, r2, r3, r4, r5]

theorem enc_len (n : Nat) (k : UInt8) (d : List UInt8) : (encB n k d).length = 14 + d.length := by simp [encB, encH, numB_len]; omega

theorem sum_iff {b : List UInt8} {n : Nat} (h : wrongB b n = false) (hl : 14 + sizeB b ≤ b.length) :
    numB (crc (b.take (10 + sizeB b))) 4 = (b.drop (10 + sizeB b)).take 4 ↔ b.take (14 + sizeB b) = encB n (b.getD 1 0) ((b.drop 10).take (sizeB b)) := by
  have hh := head_eq h (by omega) (by omega)
  have e : b.take (14 + sizeB b) = b.take (10 + sizeB b) ++ (b.drop (10 + sizeB b)).take 4 := by
    rw [show 14 + sizeB b = (10 + sizeB b) + 4 by omega, List.take_add]
  rw [e]
  unfold encB
  rw [← hh]
  constructor
  · intro h; rw [h]
  · intro h; exact (List.append_cancel_left h).symm
end Go.Ab.Try.S
