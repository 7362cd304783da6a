/- Scan of the program. Conditions: none. -/
import Derived.Test.YthpmmdlhoaonaaaJ20Next
namespace Go.Ab.Try.S
open Go.Proofs

abbrev Rcd := UInt8 × List UInt8
def recRows (l : List Rcd) : List Row := l.map fun r => recV r.1 r.2
theorem recRows_row (l : List Rcd) : ∀ row ∈ recRows l, row.length = 2 := by
  intro row h
  simp only [recRows, List.mem_map] at h
  obtain ⟨x, _, rfl⟩ := h
  rfl
theorem recRows_plain (l : List Rcd) : Plain (recRows l) := by
  intro row h c hc
  simp only [recRows, List.mem_map] at h
  obtain ⟨x, _, rfl⟩ := h
  simp only [recV, List.mem_cons, List.not_mem_nil, or_false] at hc
  rcases hc with rfl | rfl
  · exact ⟨rfl, .int⟩
  · exact ⟨rfl, cl_plain (rowsU8_plain _)⟩
@[simp] theorem recRows_len (l : List Rcd) : (recRows l).length = l.length := by simp [recRows]

/-- The records at the front, what is left, and the error. -/
def scanF : Nat → List UInt8 → Nat → List Rcd × List UInt8 × Nat
  | 0, b, _ => ([], b, 0)
  | f + 1, b, n => if b = [] then ([], b, 0) else match oneB b n with
    | .inr e => ([], b, e)
    | .inl (k, d) => ((k, d) :: (scanF f (b.drop (14 + d.length)) (n + 1)).1, (scanF f (b.drop (14 + d.length)) (n + 1)).2)
def scanB (b : List UInt8) : List Rcd × List UInt8 × Nat := scanF b.length b 0
def scanV (b : List UInt8) : AV := .tup [.islice (recRows (scanB b).1), .int .i64 ((b.length : Int) - ((scanB b).2.1.length : Nat)), .int .u8 ((scanB b).2.2 : Nat)]

theorem one_ok {b : List UInt8} {n : Nat} {k : UInt8} {d : List UInt8} (h : oneB b n = .inl (k, d)) : n < 1048576 ∧ 14 + d.length ≤ b.length ∧ d.length = sizeB b := by
  unfold oneB at h
  split at h
  · cases h
  rename_i h1
  split at h
  · cases h
  rename_i h2
  split at h
  · cases h
  cases h
  simp only [not_or] at h1
  have : ((b.drop 10).take (sizeB b)).length = sizeB b := by rw [List.length_take, List.length_drop]; omega
  refine ⟨by omega, by omega, this⟩

theorem one_err {b : List UInt8} {n e : Nat} (h : oneB b n = .inr e) : e ≠ 0 ∧ e < 256 := by
  unfold oneB at h
  split at h
  · cases h; omega
  split at h
  · cases h; omega
  split at h
  · cases h; omega
  · cases h

theorem cur_plain (b : List UInt8) (n : Nat) : Plain [[AV.islice (rowsU8 b), .int .i64 n]] := by
  intro row h c hc
  simp only [List.mem_cons, List.not_mem_nil, or_false] at h
  subst h
  simp only [List.mem_cons, List.not_mem_nil, or_false] at hc
  rcases hc with rfl | rfl
  · exact ⟨rfl, cl_plain (rowsU8_plain _)⟩
  · exact ⟨rfl, .int⟩

theorem scan18 (b : List UInt8) (hb : b.length < 9223372036854775807) : Spec Try.prog 18 [.islice (rowsU8 b)] [] (scanV b) [] := by
  refine spec_of_wp (C := Spec Try.prog) (fun _ _ _ _ _ h => h) mixed m18_ok (show 1 ≤ _ by decide) ?_
  unfold m18
  simp [m18r0, m18r1, m18r2, envOf]
  refine vc_loop (fun m σ H => ∃ (l : List Rcd) (rest : List UInt8) (f : Nat) (c : AV), m = rest.length ∧ l.length ≤ 1048576 ∧ rest.length ≤ f ∧ rest.length ≤ b.length ∧ scanB b = (l ++ (scanF f rest l.length).1, (scanF f rest l.length).2) ∧
    H[0]? = some (.rows 0 2 [[.islice (rowsU8 rest), .int .i64 (l.length : Nat)]]) ∧ AccL 2 (recRows l) c H ∧ (∀ r g a n, c = .slice r g a n → r ≠ 0) ∧ σ = [(0, .islice (rowsU8 b)), (5, .ptr 0 0 0 0), (6, c)]) b.length
    ⟨[], b, b.length, .nils, rfl, by simp, by omega, by omega, rfl, rfl, .inl ⟨rfl, rfl⟩, fun _ _ _ _ h => (by cases h), rfl⟩ ?_
  rintro m σ H ⟨l, rest, f, c, rfl, hl, hf, hrb, hscan, hcur, hacc, hc0, rfl⟩
  simp [m18l9]
  have conv : ∃ c' H', Conv [] [(0, .islice (rowsU8 b)), (5, .ptr 0 0 0 0), (6, c)] H [(0, .islice (rowsU8 b)), (5, .ptr 0 0 0 0), (6, c')] H' ∧ Acc1 [.rows 0 2 [[.islice (rowsU8 rest), .int .i64 (l.length : Nat)]]] 2 (recRows l) c' H' := by
    rcases hacc with ⟨h1, rfl⟩ | ⟨r, g, rfl, hr⟩
    · refine ⟨.nils, [.rows 0 2 [[.islice (rowsU8 rest), .int .i64 (l.length : Nat)]]], conv_pick1 hcur (by simp) (cur_plain _ _) ?_, .inl ⟨h1, rfl, rfl⟩⟩
      simp
      exact ⟨.refl (cl_plain (rowsU8_plain b)), cv_ptr rfl, .refl .nils⟩
    · refine ⟨.slice 1 g 0 (recRows l).length, [.rows 0 2 [[.islice (rowsU8 rest), .int .i64 (l.length : Nat)]], .rows g 2 (recRows l)], conv_pick2 hcur (by simp) (cur_plain _ _) hr (recRows_row l) (recRows_plain l) (Ne.symm (hc0 _ _ _ _ rfl)) ?_, .inr ⟨g, rfl, rfl⟩⟩
      simp
      exact ⟨.refl (cl_plain (rowsU8_plain b)), cv_ptr rfl, cv_slice rfl⟩
  obtain ⟨c', H', hconv, hacc'⟩ := conv
  refine vc_conv hconv ?_
  have hnc : ∀ k d, Cl 0 (.agg (recV k d)) := cl_rec
  have nx := fun N => next34 (.rows 0 2 [[.islice (rowsU8 rest), .int .i64 (l.length : Nat)]] :: N) 0 rest l.length rfl hl (by omega)
  -- the end of the bytes
  have done : rest = [] → scanB b = (l, rest, 0) := by
    intro h
    subst h
    rw [hscan]
    cases f <;> simp [scanF]
  have fin0 : ∀ (c : AV) (H : Heap), AccL 2 (recRows l) c H → rest = [] → Fin [] (.tup [c, .int .i64 (b.length : Nat), .int .u8 0]) H (scanV b) [] := by
    intro c H hc h
    unfold scanV
    rw [done h]
    simp only [h, List.length_nil, Int.natCast_zero, Int.sub_zero]
    exact fin_drop (CVs.cons (hc.freeze (recRows_row l) (recRows_plain l)) (CVs.cons (.refl .int) (CVs.cons (.refl .int) .nil))).tup
  have finE : ∀ (c : AV) (H : Heap) (e : Nat), AccL 2 (recRows l) c H → rest ≠ [] → oneB rest l.length = .inr e → Fin [] (.tup [c, .int .i64 ((b.length : Int) - rest.length), .int .u8 (e : Nat)]) H (scanV b) [] := by
    intro c H e hc h ho
    obtain ⟨f', rfl⟩ : ∃ f', f = f' + 1 := ⟨f - 1, by have := List.length_pos_iff.2 h; omega⟩
    have : scanB b = (l, rest, e) := by
      rw [hscan]
      simp [scanF, h, ho]
    unfold scanV
    rw [this]
    exact fin_drop (CVs.cons (hc.freeze (recRows_row l) (recRows_plain l)) (CVs.cons (.refl .int) (CVs.cons (.refl .int) .nil))).tup
  have step : ∀ (c2 : AV) (H2 : Heap) (k : UInt8) (d : List UInt8), oneB rest l.length = .inl (k, d) → rest ≠ [] → H2[0]? = some (.rows 0 2 [curV (rest.drop (14 + d.length)) (l.length + 1)]) → AccL 2 (recRows (l ++ [(k, d)])) c2 H2 →
      (∀ r g a n, c2 = .slice r g a n → r ≠ 0) → ∃ m, m < rest.length ∧ ∃ (l' : List Rcd) (rest' : List UInt8), m = rest'.length ∧ l'.length ≤ 1048576 ∧ ∃ x, rest'.length ≤ x ∧ rest'.length ≤ b.length ∧
        scanB b = (l' ++ (scanF x rest' l'.length).1, (scanF x rest' l'.length).2) ∧ H2[0]? = some (.rows 0 2 [[.islice (rowsU8 rest'), .int .i64 (l'.length : Nat)]]) ∧ AccL 2 (recRows l') c2 H2 ∧ ∀ r g a n, c2 = .slice r g a n → ¬r = 0 := by
    intro c2 H2 k d ho hne h1 h2 h3
    obtain ⟨f', rfl⟩ : ∃ f', f = f' + 1 := ⟨f - 1, by have := List.length_pos_iff.2 hne; omega⟩
    obtain ⟨k1, k2, k3⟩ := one_ok ho
    have hdl : (rest.drop (14 + d.length)).length = rest.length - (14 + d.length) := by simp
    refine ⟨(rest.drop (14 + d.length)).length, by omega, l ++ [(k, d)], rest.drop (14 + d.length), rfl, by simp; omega, f', by omega, by omega, ?_, by simpa [curV] using h1, h2, h3⟩
    rw [hscan]
    simp [scanF, hne, ho]
  have w0 : wrp .i64 ((b.length : Int) - rest.length) = (b.length : Int) - rest.length := wrp_i64 (by omega)
  rcases hacc' with ⟨hl0, rfl, rfl⟩ | ⟨g, rfl, rfl⟩
  · simp [m18r3, m18r4, m18r10]
    refine ⟨fun hpos => ?_, fun hz => fin0 _ _ (.inl ⟨hl0, rfl⟩) hz⟩
    refine vc_call (nx []) ?_
    have hne : rest ≠ [] := fun h => by rw [h] at hpos; simp at hpos
    unfold nextV nextH
    cases ho : oneB rest l.length with
    | inr e =>
      have he := one_err ho
      have he0 : ¬ (e : Int) = 0 := by omega
      simp +contextual [m18r5, m18r6, m18r7, he0, w0, he.1]
      exact finE _ _ e (.inl ⟨hl0, rfl⟩) hne ho
    | inl kd =>
      obtain ⟨k, d⟩ := kd
      simp [m18r5, m18r8, recV]
      refine W_of (append_nil (row := recV k d) (rest := []) rfl (by intro q hq; simp at hq; subst hq; rfl) (by simp [roomB])) ?_
      have hl1 : l = [] := by cases l; rfl; simp [recRows] at hl0
      refine step _ _ k d ho hne rfl (.inr ⟨2, 0, by subst hl1; rfl, by subst hl1; rfl⟩) (fun r g a n h => by cases h; simp)
  · simp [m18r3, m18r4, m18r10]
    refine ⟨fun hpos => ?_, fun hz => fin0 _ _ (.inr ⟨1, g, by simp, rfl⟩) hz⟩
    refine vc_call (nx _) ?_
    have hne : rest ≠ [] := fun h => by rw [h] at hpos; simp at hpos
    unfold nextV nextH
    cases ho : oneB rest l.length with
    | inr e =>
      have he := one_err ho
      have he0 : ¬ (e : Int) = 0 := by omega
      simp +contextual [m18r5, m18r6, m18r7, he0, w0, he.1]
      exact finE _ _ e (.inr ⟨1, g, by simp, rfl⟩) hne ho
    | inl kd =>
      obtain ⟨k, d⟩ := kd
      simp [m18r5, m18r8, recV]
      have e1 : (AV.slice 1 g 0 l.length) = .slice 1 g 0 (recRows l).length := by simp
      rw [e1]
      refine W_app (rs := recRows l) (news := [recV k d]) rfl rfl (by intro q hq; simp at hq; subst hq; rfl) (by simp [roomB]; omega) fun g' => ?_
      have e2 : recRows l ++ [recV k d] = recRows (l ++ [(k, d)]) := by simp [recRows]
      rw [e2]
      refine step _ _ k d ho hne rfl (.inr ⟨1, g', by simp, rfl⟩) (fun r g a n h => by cases h; simp)
end Go.Ab.Try.S
