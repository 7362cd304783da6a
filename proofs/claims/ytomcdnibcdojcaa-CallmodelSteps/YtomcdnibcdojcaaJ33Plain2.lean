/- Apply of the program. Conditions: none. -/
import Derived.Test.YtomcdnibcdojcaaJ33Base
import Derived.Test.YtomcdnibcdojcaaAbVcC
namespace Go.Ab.Try.S
open Go.Proofs

def holdB (c : Ca) (side : Int) : Bool := if side = 0 then c.h0 else c.h1
def mayF (c : Ca) (e : Ev) : Bool :=
  if e.kind = 2 then inB c.st [1, 2] else if e.kind = 12 then inB c.st [1] else if e.kind = 3 ∨ e.kind = 15 ∨ e.kind = 4 ∨ e.kind = 5 then earlyB c
  else if e.kind = 6 then inB c.st [3] && !holdB c e.side else if e.kind = 7 then inB c.st [3] && holdB c e.side
  else if e.kind = 9 ∨ e.kind = 13 then inB c.st [3] else if e.kind = 10 then inB c.st [4] && decide (c.tr < 2147483647) else if e.kind = 11 then inB c.st [4]
  else if e.kind = 14 then inB c.st [5] && decide (c.tr < 2147483647) else if e.kind = 8 then inB c.st [3, 4, 5, 7] else openB c
def endF (c : Ca) (code at_ : Int) : Ca := { c with st := 8, code := code, fin := at_ }
def setH (c : Ca) (side : Int) (b : Bool) : Ca := if side = 0 then { c with h0 := b } else { c with h1 := b }
def changeF (c : Ca) (e : Ev) : Ca :=
  if e.kind = 2 then { c with st := 2 } else if e.kind = 12 then { c with st := 6 } else if e.kind = 3 then { c with st := 3, ans := e.at_ } else if e.kind = 15 then { c with st := 7, ans := e.at_ }
  else if e.kind = 4 ∨ e.kind = 8 then endF c e.code e.at_ else if e.kind = 5 then endF c 487 e.at_ else if e.kind = 16 then endF c 408 e.at_ else if e.kind = 17 then endF c 500 e.at_
  else if e.kind = 6 ∨ e.kind = 7 then setH c e.side (decide (e.kind = 6)) else if e.kind = 9 then { c with st := 4 } else if e.kind = 10 then { c with st := 3, h0 := false, h1 := false, tr := wrp .i64 (c.tr + 1) }
  else if e.kind = 11 then { c with st := 3 } else if e.kind = 13 then { c with st := 5, h0 := false, h1 := false } else if e.kind = 14 then { c with st := 3, tr := wrp .i64 (c.tr + 1) } else c
def startF (e : Ev) : Ca := ⟨e.call, 1, false, false, 0, e.at_, e.at_, -1, -1, 0⟩
def applyF (c : Ca) (e : Ev) : Ca × Bool :=
  if evB e = false then (c, false) else if e.kind = 1 then (if c = zeroC then (startF e, true) else (c, false))
  else if e.call = c.id ∧ ¬ e.at_ < c.last ∧ mayF c e = true then ({ changeF c e with last := e.at_ }, true) else (c, false)

theorem ev_parts {e : Ev} (h : evB e = true) : (1 ≤ e.kind ∧ e.kind ≤ 17) ∧ (e.side = 0 ∨ e.side = 1) ∧ (0 ≤ e.at_ ∧ e.at_ ≤ 1099511627776) ∧ e.call ≠ [] := by
  unfold evB at h
  simp only [Bool.and_eq_true, Bool.not_eq_true', Bool.or_eq_false_iff, decide_eq_false_iff_not, Bool.or_eq_true, decide_eq_true_eq] at h
  obtain ⟨⟨h1, h2⟩, _⟩ := h
  exact ⟨by omega, h2, by omega, h1.1.1.2⟩

section
variable {H : Heap} {K : AV → Heap → Prop} {id : List UInt8} {st code beg last ans fin tr : Int} {h0 h1 : Bool}
theorem tc_i3 : callK (CE TC) 26 [.agg [.str id, .int .u8 st, .bool h0, .bool h1, .int .i64 code, .int .i64 beg, .int .i64 last, .int .i64 ans, .int .i64 fin, .int .i64 tr], .islice [[.int .u8 3]]] H K = K (.bool (inB st [3])) H := tc_in [3] (by decide) rfl
theorem tc_i1 : callK (CE TC) 26 [.agg [.str id, .int .u8 st, .bool h0, .bool h1, .int .i64 code, .int .i64 beg, .int .i64 last, .int .i64 ans, .int .i64 fin, .int .i64 tr], .islice [[.int .u8 1]]] H K = K (.bool (inB st [1])) H := tc_in [1] (by decide) rfl
theorem tc_i4 : callK (CE TC) 26 [.agg [.str id, .int .u8 st, .bool h0, .bool h1, .int .i64 code, .int .i64 beg, .int .i64 last, .int .i64 ans, .int .i64 fin, .int .i64 tr], .islice [[.int .u8 4]]] H K = K (.bool (inB st [4])) H := tc_in [4] (by decide) rfl
theorem tc_i5 : callK (CE TC) 26 [.agg [.str id, .int .u8 st, .bool h0, .bool h1, .int .i64 code, .int .i64 beg, .int .i64 last, .int .i64 ans, .int .i64 fin, .int .i64 tr], .islice [[.int .u8 5]]] H K = K (.bool (inB st [5])) H := tc_in [5] (by decide) rfl
theorem tc_i12 : callK (CE TC) 26 [.agg [.str id, .int .u8 st, .bool h0, .bool h1, .int .i64 code, .int .i64 beg, .int .i64 last, .int .i64 ans, .int .i64 fin, .int .i64 tr], .islice [[.int .u8 1], [.int .u8 2]]] H K = K (.bool (inB st [1, 2])) H := tc_in [1, 2] (by decide) rfl
theorem tc_i345 : callK (CE TC) 26 [.agg [.str id, .int .u8 st, .bool h0, .bool h1, .int .i64 code, .int .i64 beg, .int .i64 last, .int .i64 ans, .int .i64 fin, .int .i64 tr], .islice [[.int .u8 3], [.int .u8 4], [.int .u8 5], [.int .u8 7]]] H K = K (.bool (inB st [3, 4, 5, 7])) H := tc_in [3, 4, 5, 7] (by decide) rfl
theorem tc_i348 : callK (CE TC) 26 [.agg [.str id, .int .u8 st, .bool h0, .bool h1, .int .i64 code, .int .i64 beg, .int .i64 last, .int .i64 ans, .int .i64 fin, .int .i64 tr], .islice [[.int .u8 3], [.int .u8 4], [.int .u8 8]]] H K = K (.bool (inB st [3, 4, 8])) H := tc_in [3, 4, 8] (by decide) rfl
end

theorem may21_a (c : Ca) (e : Ev) (this : e.kind = 1 ∨ e.kind = 2 ∨ e.kind = 3 ∨ e.kind = 4 ∨ e.kind = 5) : Spec Try.prog 21 [.agg c.row, .agg e.row] [] (.bool (mayF c e)) [] := by
  refine spec_of_wp (C := CE TC) CE_ok mixed m21_ok (show 2 ≤ _ by decide) ?_
  unfold m21
  have fin : ∀ {x : Bool} {H : Heap}, x = mayF c e → Fin [] (.bool x) H (.bool (mayF c e)) [] := fun h => fin_bool h
  rcases this with h | h | h | h | h <;>
  · simp [m21r0, m21r1, m21r2, m21r3, m21r4, m21r5, m21r6, m21r7, m21r8, m21r9, m21r10, m21r11, m21r12, m21r13, m21r14, m21r15, m21r16, m21r17, m21r18, m21r19, m21r20, m21r21, m21r22, m21r23, m21r24, m21r25, m21r26, envOf, Ca.row, Ev.row, h, tc_i3, tc_i1, tc_i4, tc_i5, tc_i12, tc_i345, tc_early, tc_open]
    exact fin (by simp [mayF, h])
theorem may21_b (c : Ca) (e : Ev) (this : e.kind = 8 ∨ e.kind = 9 ∨ e.kind = 11 ∨ e.kind = 12) : Spec Try.prog 21 [.agg c.row, .agg e.row] [] (.bool (mayF c e)) [] := by
  refine spec_of_wp (C := CE TC) CE_ok mixed m21_ok (show 2 ≤ _ by decide) ?_
  unfold m21
  have fin : ∀ {x : Bool} {H : Heap}, x = mayF c e → Fin [] (.bool x) H (.bool (mayF c e)) [] := fun h => fin_bool h
  rcases this with h | h | h | h <;>
  · simp [m21r0, m21r1, m21r2, m21r3, m21r4, m21r5, m21r6, m21r7, m21r8, m21r9, m21r10, m21r11, m21r12, m21r13, m21r14, m21r15, m21r16, m21r17, m21r18, m21r19, m21r20, m21r21, m21r22, m21r23, m21r24, m21r25, m21r26, envOf, Ca.row, Ev.row, h, tc_i3, tc_i1, tc_i4, tc_i5, tc_i12, tc_i345, tc_early, tc_open]
    exact fin (by simp [mayF, h])
theorem may21_b2 (c : Ca) (e : Ev) (this : e.kind = 13 ∨ e.kind = 15 ∨ e.kind = 16 ∨ e.kind = 17) : Spec Try.prog 21 [.agg c.row, .agg e.row] [] (.bool (mayF c e)) [] := by
  refine spec_of_wp (C := CE TC) CE_ok mixed m21_ok (show 2 ≤ _ by decide) ?_
  unfold m21
  have fin : ∀ {x : Bool} {H : Heap}, x = mayF c e → Fin [] (.bool x) H (.bool (mayF c e)) [] := fun h => fin_bool h
  rcases this with h | h | h | h <;>
  · simp [m21r0, m21r1, m21r2, m21r3, m21r4, m21r5, m21r6, m21r7, m21r8, m21r9, m21r10, m21r11, m21r12, m21r13, m21r14, m21r15, m21r16, m21r17, m21r18, m21r19, m21r20, m21r21, m21r22, m21r23, m21r24, m21r25, m21r26, envOf, Ca.row, Ev.row, h, tc_i3, tc_i1, tc_i4, tc_i5, tc_i12, tc_i345, tc_early, tc_open]
    exact fin (by simp [mayF, h])
theorem may21_c10 (c : Ca) (e : Ev) (h : e.kind = 10) : Spec Try.prog 21 [.agg c.row, .agg e.row] [] (.bool (mayF c e)) [] := by
  refine spec_of_wp (C := CE TC) CE_ok mixed m21_ok (show 2 ≤ _ by decide) ?_
  unfold m21
  have fin : ∀ {x : Bool} {H : Heap}, x = mayF c e → Fin [] (.bool x) H (.bool (mayF c e)) [] := fun h => fin_bool h
  cases hb : inB c.st [4] <;>
  · simp [m21r0, m21r1, m21r2, m21r3, m21r4, m21r5, m21r6, m21r7, m21r8, m21r9, m21r10, m21r11, m21r12, m21r13, m21r14, m21r15, m21r16, m21r17, m21r18, m21r19, m21r20, m21r21, m21r22, m21r23, m21r24, m21r25, m21r26, envOf, Ca.row, Ev.row, h, hb, tc_i3, tc_i1, tc_i4, tc_i5, tc_i12, tc_i345, tc_early, tc_open]
    exact fin (by simp [mayF, h, hb])
theorem may21_c14 (c : Ca) (e : Ev) (h : e.kind = 14) : Spec Try.prog 21 [.agg c.row, .agg e.row] [] (.bool (mayF c e)) [] := by
  refine spec_of_wp (C := CE TC) CE_ok mixed m21_ok (show 2 ≤ _ by decide) ?_
  unfold m21
  have fin : ∀ {x : Bool} {H : Heap}, x = mayF c e → Fin [] (.bool x) H (.bool (mayF c e)) [] := fun h => fin_bool h
  cases hb : inB c.st [5] <;>
  · simp [m21r0, m21r1, m21r2, m21r3, m21r4, m21r5, m21r6, m21r7, m21r8, m21r9, m21r10, m21r11, m21r12, m21r13, m21r14, m21r15, m21r16, m21r17, m21r18, m21r19, m21r20, m21r21, m21r22, m21r23, m21r24, m21r25, m21r26, envOf, Ca.row, Ev.row, h, hb, tc_i3, tc_i1, tc_i4, tc_i5, tc_i12, tc_i345, tc_early, tc_open]
    exact fin (by simp [mayF, h, hb])
theorem may21_d60 (c : Ca) (e : Ev) (h : e.kind = 6) (hs : e.side = 0) : Spec Try.prog 21 [.agg c.row, .agg e.row] [] (.bool (mayF c e)) [] := by
  refine spec_of_wp (C := CE TC) CE_ok mixed m21_ok (show 2 ≤ _ by decide) ?_
  unfold m21
  have fin : ∀ {x : Bool} {H : Heap}, x = mayF c e → Fin [] (.bool x) H (.bool (mayF c e)) [] := fun h => fin_bool h
  cases hb : inB c.st [3] <;>
  · simp [m21r0, m21r1, m21r2, m21r3, m21r4, m21r5, m21r6, m21r7, m21r8, m21r9, m21r10, m21r11, m21r12, m21r13, m21r14, m21r15, m21r16, m21r17, m21r18, m21r19, m21r20, m21r21, m21r22, m21r23, m21r24, m21r25, m21r26, envOf, Ca.row, Ev.row, h, hs, hb, tc_i3, tc_i1, tc_i4, tc_i5, tc_i12, tc_i345, tc_early, tc_open, aaddrAV]
    exact fin (by simp [mayF, h, hs, hb, holdB])
theorem may21_d61 (c : Ca) (e : Ev) (h : e.kind = 6) (hs : e.side = 1) : Spec Try.prog 21 [.agg c.row, .agg e.row] [] (.bool (mayF c e)) [] := by
  refine spec_of_wp (C := CE TC) CE_ok mixed m21_ok (show 2 ≤ _ by decide) ?_
  unfold m21
  have fin : ∀ {x : Bool} {H : Heap}, x = mayF c e → Fin [] (.bool x) H (.bool (mayF c e)) [] := fun h => fin_bool h
  cases hb : inB c.st [3] <;>
  · simp [m21r0, m21r1, m21r2, m21r3, m21r4, m21r5, m21r6, m21r7, m21r8, m21r9, m21r10, m21r11, m21r12, m21r13, m21r14, m21r15, m21r16, m21r17, m21r18, m21r19, m21r20, m21r21, m21r22, m21r23, m21r24, m21r25, m21r26, envOf, Ca.row, Ev.row, h, hs, hb, tc_i3, tc_i1, tc_i4, tc_i5, tc_i12, tc_i345, tc_early, tc_open, aaddrAV]
    exact fin (by simp [mayF, h, hs, hb, holdB])
theorem may21_d70 (c : Ca) (e : Ev) (h : e.kind = 7) (hs : e.side = 0) : Spec Try.prog 21 [.agg c.row, .agg e.row] [] (.bool (mayF c e)) [] := by
  refine spec_of_wp (C := CE TC) CE_ok mixed m21_ok (show 2 ≤ _ by decide) ?_
  unfold m21
  have fin : ∀ {x : Bool} {H : Heap}, x = mayF c e → Fin [] (.bool x) H (.bool (mayF c e)) [] := fun h => fin_bool h
  cases hb : inB c.st [3] <;>
  · simp [m21r0, m21r1, m21r2, m21r3, m21r4, m21r5, m21r6, m21r7, m21r8, m21r9, m21r10, m21r11, m21r12, m21r13, m21r14, m21r15, m21r16, m21r17, m21r18, m21r19, m21r20, m21r21, m21r22, m21r23, m21r24, m21r25, m21r26, envOf, Ca.row, Ev.row, h, hs, hb, tc_i3, tc_i1, tc_i4, tc_i5, tc_i12, tc_i345, tc_early, tc_open, aaddrAV]
    exact fin (by simp [mayF, h, hs, hb, holdB])
theorem may21_d71 (c : Ca) (e : Ev) (h : e.kind = 7) (hs : e.side = 1) : Spec Try.prog 21 [.agg c.row, .agg e.row] [] (.bool (mayF c e)) [] := by
  refine spec_of_wp (C := CE TC) CE_ok mixed m21_ok (show 2 ≤ _ by decide) ?_
  unfold m21
  have fin : ∀ {x : Bool} {H : Heap}, x = mayF c e → Fin [] (.bool x) H (.bool (mayF c e)) [] := fun h => fin_bool h
  cases hb : inB c.st [3] <;>
  · simp [m21r0, m21r1, m21r2, m21r3, m21r4, m21r5, m21r6, m21r7, m21r8, m21r9, m21r10, m21r11, m21r12, m21r13, m21r14, m21r15, m21r16, m21r17, m21r18, m21r19, m21r20, m21r21, m21r22, m21r23, m21r24, m21r25, m21r26, envOf, Ca.row, Ev.row, h, hs, hb, tc_i3, tc_i1, tc_i4, tc_i5, tc_i12, tc_i345, tc_early, tc_open, aaddrAV]
    exact fin (by simp [mayF, h, hs, hb, holdB])
theorem may21 (c : Ca) (e : Ev) (hk : 1 ≤ e.kind ∧ e.kind ≤ 17) (hs : e.side = 0 ∨ e.side = 1) : Spec Try.prog 21 [.agg c.row, .agg e.row] [] (.bool (mayF c e)) [] := by
  by_cases h1 : e.kind = 1 ∨ e.kind = 2 ∨ e.kind = 3 ∨ e.kind = 4 ∨ e.kind = 5
  · exact may21_a c e h1
  by_cases h2 : e.kind = 8 ∨ e.kind = 9 ∨ e.kind = 11 ∨ e.kind = 12
  · exact may21_b c e h2
  by_cases h3 : e.kind = 13 ∨ e.kind = 15 ∨ e.kind = 16 ∨ e.kind = 17
  · exact may21_b2 c e h3
  by_cases h4 : e.kind = 10 ∨ e.kind = 14
  · rcases h4 with h | h
    · exact may21_c10 c e h
    · exact may21_c14 c e h
  by_cases h6 : e.kind = 6
  · rcases hs with hs | hs
    · exact may21_d60 c e h6 hs
    · exact may21_d61 c e h6 hs
  have h7 : e.kind = 7 := by omega
  rcases hs with hs | hs
  · exact may21_d70 c e h7 hs
  · exact may21_d71 c e h7 hs
end Go.Ab.Try.S

/- What an event changes. Conditions: none. -/
namespace Go.Ab.Try.S
open Go.Proofs

theorem end33 (c : Ca) (code at_ : Int) (B : Heap) : Spec Try.prog 33 [.ptr 0 0 0 0, .int .i64 code, .int .i64 at_] (.rows 0 10 [c.row] :: B) (.tup []) (.rows 0 10 [(endF c code at_).row] :: B) := by
  refine spec_of_wp (C := Spec Try.prog) (fun _ _ _ _ _ h => h) mixed m33_ok (show 3 ≤ _ by decide) ?_
  unfold m33
  simp [m33r0, envOf, Ca.row]
  exact fin_of rfl

theorem bcl_ca {n : Nat} (c : Ca) : BCl n (.rows 0 10 [c.row]) := .rows fun i row j v h1 h2 => by
  match i with
  | 0 => simp at h1; subst h1; exact (cls_ca c j v h2).mono (Nat.zero_le _)
  | i + 1 => simp at h1
theorem fin22 (c0 c' : Ca) {R0 R : Row} {B J : Heap} (hR : R = c'.row) (h : R0 = R) : Fin (.rows 0 10 [c0.row] :: B) (.tup []) (.rows 0 10 [R0] :: (B ++ J)) (.tup []) (.rows 0 10 [R] :: B) := by
  subst h hR
  refine fin_tmp (H0 := .rows 0 10 [c0.row] :: B) (Hm := .rows 0 10 [c'.row] :: B) (J := J) rfl (fun r b hb => ?_) (.refl Cls.nil.tup)
  match r with
  | 0 => simp at hb; subst hb; exact .inr (bcl_ca c')
  | r + 1 => exact .inl hb
theorem change22_a (c : Ca) (e : Ev) (this : e.kind = 1 ∨ e.kind = 2 ∨ e.kind = 3) (B : Heap) : Spec Try.prog 22 [.ptr 0 0 0 0, .agg e.row] (.rows 0 10 [c.row] :: B) (.tup []) (.rows 0 10 [(changeF c e).row] :: B) := by
  refine spec_of_wp (C := Spec Try.prog) (fun _ _ _ _ _ h => h) mixed m22_ok (show 2 ≤ _ by decide) ?_
  unfold m22
  obtain ⟨R, hR⟩ : ∃ R, R = (changeF c e).row := ⟨_, rfl⟩
  rw [← hR]
  rcases this with h | h | h <;>
  · simp [m22r0, m22r1, m22r2, m22r3, m22r4, m22r5, m22r6, m22r7, m22r8, m22r9, m22r10, m22r11, m22r12, m22r13, m22r14, m22r15, m22r16, m22r17, m22r18, m22r19, m22r20, m22r21, m22r22, m22r23, m22r24, m22r25, m22r26, m22r27, m22r28, m22r29, m22r30, m22r31, m22r32, m22r33, m22r34, m22r35, m22r36, m22r37, m22r38, m22r39, m22r40, m22r41, m22r42, m22r43, m22r44, m22r45, m22r46, m22r47, envOf, Ca.row, Ev.row, h, aaddrAV]
    exact fin22 c _ hR (by rw [hR]; simp [changeF, h, Ca.row])
theorem change22_b (c : Ca) (e : Ev) (this : e.kind = 9 ∨ e.kind = 11 ∨ e.kind = 12 ∨ e.kind = 15) (B : Heap) : Spec Try.prog 22 [.ptr 0 0 0 0, .agg e.row] (.rows 0 10 [c.row] :: B) (.tup []) (.rows 0 10 [(changeF c e).row] :: B) := by
  refine spec_of_wp (C := Spec Try.prog) (fun _ _ _ _ _ h => h) mixed m22_ok (show 2 ≤ _ by decide) ?_
  unfold m22
  obtain ⟨R, hR⟩ : ∃ R, R = (changeF c e).row := ⟨_, rfl⟩
  rw [← hR]
  rcases this with h | h | h | h <;>
  · simp [m22r0, m22r1, m22r2, m22r3, m22r4, m22r5, m22r6, m22r7, m22r8, m22r9, m22r10, m22r11, m22r12, m22r13, m22r14, m22r15, m22r16, m22r17, m22r18, m22r19, m22r20, m22r21, m22r22, m22r23, m22r24, m22r25, m22r26, m22r27, m22r28, m22r29, m22r30, m22r31, m22r32, m22r33, m22r34, m22r35, m22r36, m22r37, m22r38, m22r39, m22r40, m22r41, m22r42, m22r43, m22r44, m22r45, m22r46, m22r47, envOf, Ca.row, Ev.row, h, aaddrAV]
    exact fin22 c _ hR (by rw [hR]; simp [changeF, h, Ca.row])
theorem change22_b2 (c : Ca) (e : Ev) (this : e.kind = 10 ∨ e.kind = 13 ∨ e.kind = 14) (B : Heap) : Spec Try.prog 22 [.ptr 0 0 0 0, .agg e.row] (.rows 0 10 [c.row] :: B) (.tup []) (.rows 0 10 [(changeF c e).row] :: B) := by
  refine spec_of_wp (C := Spec Try.prog) (fun _ _ _ _ _ h => h) mixed m22_ok (show 2 ≤ _ by decide) ?_
  unfold m22
  obtain ⟨R, hR⟩ : ∃ R, R = (changeF c e).row := ⟨_, rfl⟩
  rw [← hR]
  rcases this with h | h | h <;>
  · simp [m22r0, m22r1, m22r2, m22r3, m22r4, m22r5, m22r6, m22r7, m22r8, m22r9, m22r10, m22r11, m22r12, m22r13, m22r14, m22r15, m22r16, m22r17, m22r18, m22r19, m22r20, m22r21, m22r22, m22r23, m22r24, m22r25, m22r26, m22r27, m22r28, m22r29, m22r30, m22r31, m22r32, m22r33, m22r34, m22r35, m22r36, m22r37, m22r38, m22r39, m22r40, m22r41, m22r42, m22r43, m22r44, m22r45, m22r46, m22r47, envOf, Ca.row, Ev.row, h, aaddrAV]
    exact fin22 c _ hR (by rw [hR]; simp [changeF, h, Ca.row])
theorem change22_c48 (c : Ca) (e : Ev) (this : e.kind = 4 ∨ e.kind = 8) (B : Heap) : Spec Try.prog 22 [.ptr 0 0 0 0, .agg e.row] (.rows 0 10 [c.row] :: B) (.tup []) (.rows 0 10 [(changeF c e).row] :: B) := by
  refine spec_of_wp (C := Spec Try.prog) (fun _ _ _ _ _ h => h) mixed m22_ok (show 2 ≤ _ by decide) ?_
  unfold m22
  obtain ⟨R, hR⟩ : ∃ R, R = (changeF c e).row := ⟨_, rfl⟩
  rw [← hR]
  rcases this with h | h <;>
  · simp [m22r0, m22r1, m22r2, m22r3, m22r4, m22r5, m22r6, m22r7, m22r8, m22r9, m22r10, m22r11, m22r12, m22r13, m22r14, m22r15, m22r16, m22r17, m22r18, m22r19, m22r20, m22r21, m22r22, m22r23, m22r24, m22r25, m22r26, m22r27, m22r28, m22r29, m22r30, m22r31, m22r32, m22r33, m22r34, m22r35, m22r36, m22r37, m22r38, m22r39, m22r40, m22r41, m22r42, m22r43, m22r44, m22r45, m22r46, m22r47, envOf, Ca.row, Ev.row, h, aaddrAV]
    refine vc_call (end33 c _ _ _) ?_
    simp
    exact fin22 c _ hR (by rw [hR]; simp [changeF, h, endF, Ca.row])
theorem change22_c5 (c : Ca) (e : Ev) (this : e.kind = 5) (B : Heap) : Spec Try.prog 22 [.ptr 0 0 0 0, .agg e.row] (.rows 0 10 [c.row] :: B) (.tup []) (.rows 0 10 [(changeF c e).row] :: B) := by
  refine spec_of_wp (C := Spec Try.prog) (fun _ _ _ _ _ h => h) mixed m22_ok (show 2 ≤ _ by decide) ?_
  unfold m22
  obtain ⟨R, hR⟩ : ∃ R, R = (changeF c e).row := ⟨_, rfl⟩
  rw [← hR]
  have h := this
  · simp [m22r0, m22r1, m22r2, m22r3, m22r4, m22r5, m22r6, m22r7, m22r8, m22r9, m22r10, m22r11, m22r12, m22r13, m22r14, m22r15, m22r16, m22r17, m22r18, m22r19, m22r20, m22r21, m22r22, m22r23, m22r24, m22r25, m22r26, m22r27, m22r28, m22r29, m22r30, m22r31, m22r32, m22r33, m22r34, m22r35, m22r36, m22r37, m22r38, m22r39, m22r40, m22r41, m22r42, m22r43, m22r44, m22r45, m22r46, m22r47, envOf, Ca.row, Ev.row, h, aaddrAV]
    refine vc_call (end33 c _ _ _) ?_
    simp
    exact fin22 c _ hR (by rw [hR]; simp [changeF, h, endF, Ca.row])
theorem change22_c16 (c : Ca) (e : Ev) (this : e.kind = 16) (B : Heap) : Spec Try.prog 22 [.ptr 0 0 0 0, .agg e.row] (.rows 0 10 [c.row] :: B) (.tup []) (.rows 0 10 [(changeF c e).row] :: B) := by
  refine spec_of_wp (C := Spec Try.prog) (fun _ _ _ _ _ h => h) mixed m22_ok (show 2 ≤ _ by decide) ?_
  unfold m22
  obtain ⟨R, hR⟩ : ∃ R, R = (changeF c e).row := ⟨_, rfl⟩
  rw [← hR]
  have h := this
  · simp [m22r0, m22r1, m22r2, m22r3, m22r4, m22r5, m22r6, m22r7, m22r8, m22r9, m22r10, m22r11, m22r12, m22r13, m22r14, m22r15, m22r16, m22r17, m22r18, m22r19, m22r20, m22r21, m22r22, m22r23, m22r24, m22r25, m22r26, m22r27, m22r28, m22r29, m22r30, m22r31, m22r32, m22r33, m22r34, m22r35, m22r36, m22r37, m22r38, m22r39, m22r40, m22r41, m22r42, m22r43, m22r44, m22r45, m22r46, m22r47, envOf, Ca.row, Ev.row, h, aaddrAV]
    refine vc_call (end33 c _ _ _) ?_
    simp
    exact fin22 c _ hR (by rw [hR]; simp [changeF, h, endF, Ca.row])
theorem change22_c17 (c : Ca) (e : Ev) (this : e.kind = 17) (B : Heap) : Spec Try.prog 22 [.ptr 0 0 0 0, .agg e.row] (.rows 0 10 [c.row] :: B) (.tup []) (.rows 0 10 [(changeF c e).row] :: B) := by
  refine spec_of_wp (C := Spec Try.prog) (fun _ _ _ _ _ h => h) mixed m22_ok (show 2 ≤ _ by decide) ?_
  unfold m22
  obtain ⟨R, hR⟩ : ∃ R, R = (changeF c e).row := ⟨_, rfl⟩
  rw [← hR]
  have h := this
  · simp [m22r0, m22r1, m22r2, m22r3, m22r4, m22r5, m22r6, m22r7, m22r8, m22r9, m22r10, m22r11, m22r12, m22r13, m22r14, m22r15, m22r16, m22r17, m22r18, m22r19, m22r20, m22r21, m22r22, m22r23, m22r24, m22r25, m22r26, m22r27, m22r28, m22r29, m22r30, m22r31, m22r32, m22r33, m22r34, m22r35, m22r36, m22r37, m22r38, m22r39, m22r40, m22r41, m22r42, m22r43, m22r44, m22r45, m22r46, m22r47, envOf, Ca.row, Ev.row, h, aaddrAV]
    refine vc_call (end33 c _ _ _) ?_
    simp
    exact fin22 c _ hR (by rw [hR]; simp [changeF, h, endF, Ca.row])
theorem change22_d0 (c : Ca) (e : Ev) (this : e.kind = 6 ∨ e.kind = 7) (hs : e.side = 0) (B : Heap) : Spec Try.prog 22 [.ptr 0 0 0 0, .agg e.row] (.rows 0 10 [c.row] :: B) (.tup []) (.rows 0 10 [(changeF c e).row] :: B) := by
  refine spec_of_wp (C := Spec Try.prog) (fun _ _ _ _ _ h => h) mixed m22_ok (show 2 ≤ _ by decide) ?_
  unfold m22
  obtain ⟨R, hR⟩ : ∃ R, R = (changeF c e).row := ⟨_, rfl⟩
  rw [← hR]
  rcases this with h | h <;>
  · simp [m22r0, m22r1, m22r2, m22r3, m22r4, m22r5, m22r6, m22r7, m22r8, m22r9, m22r10, m22r11, m22r12, m22r13, m22r14, m22r15, m22r16, m22r17, m22r18, m22r19, m22r20, m22r21, m22r22, m22r23, m22r24, m22r25, m22r26, m22r27, m22r28, m22r29, m22r30, m22r31, m22r32, m22r33, m22r34, m22r35, m22r36, m22r37, m22r38, m22r39, m22r40, m22r41, m22r42, m22r43, m22r44, m22r45, m22r46, m22r47, envOf, Ca.row, Ev.row, h, hs, aaddrAV]
    exact fin22 c _ hR (by rw [hR]; simp [changeF, h, hs, setH, Ca.row])
theorem change22_d1 (c : Ca) (e : Ev) (this : e.kind = 6 ∨ e.kind = 7) (hs : e.side = 1) (B : Heap) : Spec Try.prog 22 [.ptr 0 0 0 0, .agg e.row] (.rows 0 10 [c.row] :: B) (.tup []) (.rows 0 10 [(changeF c e).row] :: B) := by
  refine spec_of_wp (C := Spec Try.prog) (fun _ _ _ _ _ h => h) mixed m22_ok (show 2 ≤ _ by decide) ?_
  unfold m22
  obtain ⟨R, hR⟩ : ∃ R, R = (changeF c e).row := ⟨_, rfl⟩
  rw [← hR]
  rcases this with h | h <;>
  · simp [m22r0, m22r1, m22r2, m22r3, m22r4, m22r5, m22r6, m22r7, m22r8, m22r9, m22r10, m22r11, m22r12, m22r13, m22r14, m22r15, m22r16, m22r17, m22r18, m22r19, m22r20, m22r21, m22r22, m22r23, m22r24, m22r25, m22r26, m22r27, m22r28, m22r29, m22r30, m22r31, m22r32, m22r33, m22r34, m22r35, m22r36, m22r37, m22r38, m22r39, m22r40, m22r41, m22r42, m22r43, m22r44, m22r45, m22r46, m22r47, envOf, Ca.row, Ev.row, h, hs, aaddrAV]
    exact fin22 c _ hR (by rw [hR]; simp [changeF, h, hs, setH, Ca.row])
theorem change22 (c : Ca) (e : Ev) (hk : 1 ≤ e.kind ∧ e.kind ≤ 17) (hs : e.side = 0 ∨ e.side = 1) (B : Heap) : Spec Try.prog 22 [.ptr 0 0 0 0, .agg e.row] (.rows 0 10 [c.row] :: B) (.tup []) (.rows 0 10 [(changeF c e).row] :: B) := by
  by_cases h1 : e.kind = 1 ∨ e.kind = 2 ∨ e.kind = 3
  · exact change22_a c e h1 B
  by_cases h2 : e.kind = 9 ∨ e.kind = 11 ∨ e.kind = 12 ∨ e.kind = 15
  · exact change22_b c e h2 B
  by_cases h3 : e.kind = 10 ∨ e.kind = 13 ∨ e.kind = 14
  · exact change22_b2 c e h3 B
  by_cases h4 : e.kind = 4 ∨ e.kind = 8
  · exact change22_c48 c e h4 B
  by_cases h5 : e.kind = 5
  · exact change22_c5 c e h5 B
  by_cases h6 : e.kind = 16
  · exact change22_c16 c e h6 B
  by_cases h7 : e.kind = 17
  · exact change22_c17 c e h7 B
  rcases hs with hs | hs
  · exact change22_d0 c e (by omega) hs B
  · exact change22_d1 c e (by omega) hs B
end Go.Ab.Try.S

/- Apply, as a whole. Conditions: none. -/
namespace Go.Ab.Try.S
open Go.Proofs

def eqB (a b : Ca) : Bool := decide (a.id = b.id) && (decide (a.st = b.st) && ((a.h0 == b.h0) && ((a.h1 == b.h1) && (decide (a.code = b.code) && (decide (a.beg = b.beg) && (decide (a.last = b.last) && (decide (a.ans = b.ans) && (decide (a.fin = b.fin) && decide (a.tr = b.tr)))))))))
theorem eqB_eq (a b : Ca) : eqB a b = decide (a = b) := by
  rw [Bool.eq_iff_iff, decide_eq_true_eq]
  unfold eqB
  simp only [Bool.and_eq_true, decide_eq_true_eq, beq_iff_eq]
  constructor
  · rintro ⟨h1, h2, h3, h4, h5, h6, h7, h8, h9, h10⟩
    cases a; cases b
    simp_all
  · rintro rfl
    simp
theorem flat10 (a b : Ca) : binAV .eql (.flat [2, 0, 1, 1, 0, 0, 0, 0, 0, 0]) (.agg a.row) (.agg b.row) = some (.bool (decide (a = b))) := by
  rw [← eqB_eq]
  simp [binAV, eqAV, cellsEq, cellEq, Ca.row, eqB]
theorem flat10n (a b : Ca) : binAV .neq (.flat [2, 0, 1, 1, 0, 0, 0, 0, 0, 0]) (.agg a.row) (.agg b.row) = some (.bool (!decide (a = b))) := by
  rw [← eqB_eq]
  simp [binAV, eqAV, cellsEq, cellEq, Ca.row, eqB]
theorem zero_row : zeroC.row = [.str [], .int .u8 0, .bool false, .bool false, .int .i64 0, .int .i64 0, .int .i64 0, .int .i64 0, .int .i64 0, .int .i64 0] := rfl
theorem flat10z (c : Ca) : binAV .neq (.flat [2, 0, 1, 1, 0, 0, 0, 0, 0, 0]) (.agg c.row) (.agg [.str [], .int .u8 0, .bool false, .bool false, .int .i64 0, .int .i64 0, .int .i64 0, .int .i64 0, .int .i64 0, .int .i64 0]) = some (.bool (!decide (c = zeroC))) := flat10n c zeroC
theorem flat10e (c : Ca) : binAV .eql (.flat [2, 0, 1, 1, 0, 0, 0, 0, 0, 0]) (.agg c.row) (.agg [.str [], .int .u8 0, .bool false, .bool false, .int .i64 0, .int .i64 0, .int .i64 0, .int .i64 0, .int .i64 0, .int .i64 0]) = some (.bool (decide (c = zeroC))) := flat10 c zeroC

theorem fin_ap {H : Heap} {c c' : Ca} {b b' : Bool} (h : c = c') (h2 : b = b') : Fin [] (.tup [.agg c.row, .bool b]) H (.tup [.agg c'.row, .bool b']) [] := by
  subst h h2
  exact fin_drop (.refl (Cls.cons (cl_ca c) (Cls.cons .bool .nil)).tup)
def appV (c : Ca) (e : Ev) : AV := .tup [.agg (applyF c e).1.row, .bool (applyF c e).2]
theorem cl_app (c : Ca) (e : Ev) : Cl 0 (appV c e) := (Cls.cons (cl_ca _) (Cls.cons .bool .nil)).tup

theorem row_at0 (c : Ca) : c.row[0]? = some (.str c.id) := rfl
theorem row_at6 (c : Ca) : c.row[6]? = some (.int .i64 c.last) := rfl
theorem row_at1 (c : Ca) : c.row[1]? = some (.int .u8 c.st) := rfl
theorem set6 (c : Ca) (n : Int) : c.row.take 6 ++ [.int .i64 n] ++ c.row.drop 7 = ({ c with last := n } : Ca).row := rfl
theorem set6' (c : Ca) (n : Int) : c.row.take 6 ++ .int .i64 n :: c.row.drop 7 = ({ c with last := n } : Ca).row := rfl
theorem ca_drop (c : Ca) : c.row.drop 10 = [] := rfl

theorem apply9 (c : Ca) (e : Ev) : Spec Try.prog 9 [.agg c.row, .agg e.row] [] (appV c e) [] := by
  refine spec_of_wp (C := Spec Try.prog) (fun _ _ _ _ _ h => h) mixed m9_ok (show 2 ≤ _ by decide) ?_
  unfold m9
  have fin : ∀ {x : Ca} {b : Bool} {H : Heap}, applyF c e = (x, b) → Fin [] (.tup [.agg x.row, .bool b]) H (appV c e) [] := fun {x b H} h => by
    unfold appV; rw [h]; exact fin_ap rfl rfl
  simp [m9r0, envOf, m9r1]
  refine vc_call ((ev20 e).frame (Cls.cons (cl_ev _) .nil) .bool _) ?_
  simp
  refine ⟨fun he => ?_, fun he => ?_⟩
  · simp [m9r2]
    exact fin (by unfold applyF; rw [if_pos he])
  obtain ⟨hk, hs, hat, hcall⟩ := ev_parts he
  have e0 : applyF c e = if e.kind = 1 then (if c = zeroC then (startF e, true) else (c, false)) else if e.call = c.id ∧ ¬ e.at_ < c.last ∧ mayF c e = true then ({ changeF c e with last := e.at_ }, true) else (c, false) := by
    unfold applyF; rw [if_neg (by simp [he])]
  simp [m9r3, Ev.row]
  refine ⟨fun h1 => ?_, fun h1 => ?_⟩
  · rw [if_pos h1] at e0
    simp [m9r4, flat10z]
    refine ⟨fun hz => ?_, fun hz => ?_⟩
    · simp [m9r5]
      exact fin (by rw [e0, if_neg hz])
    · simp [m9r6]
      refine fin (x := startF e) ?_
      rw [e0, if_pos hz]
  rw [if_neg h1] at e0
  by_cases hid : e.call = c.id
  case neg =>
    simp [m9r7, row_at0, hid, m9r8]
    exact fin (by rw [e0, if_neg (fun h => hid h.1)])
  by_cases hlt : e.at_ < c.last
  case pos =>
    simp [m9r7, row_at0, row_at6, hid, hlt, m9r8]
    exact fin (by rw [e0, if_neg (fun h => h.2.1 hlt)])
  simp [m9r7, row_at0, row_at6, hid, hlt]
  have er : Ev.row e = [.int .u8 e.kind, .str c.id, .int .i64 e.side, .int .i64 e.code, .int .i64 e.at_] := by rw [← hid]; rfl
  rw [← er]
  refine vc_call ((may21 c e hk hs).frame (Cls.cons (cl_ca _) (Cls.cons (cl_ev _) .nil)) .bool _) ?_
  cases hm : mayF c e with
  | false =>
    simp [m9r8]
    exact fin (by rw [e0, if_neg (fun h => by rw [hm] at h; exact absurd h.2.2 (by decide))])
  | true =>
    simp [m9r9]
    refine vc_call (change22 c e hk hs _) ?_
    simp [m9r10, er]
    rw [← er]
    simp [set6', m9r11]
    exact fin (by rw [e0, if_pos ⟨hid, hlt, hm⟩])
end Go.Ab.Try.S

/- Valid of the program. Conditions: none. -/
namespace Go.Ab.Try.S
open Go.Proofs

def ansB (c : Ca) : Bool := !decide (c.ans = -1)
def badA (c : Ca) : Bool := decide (c.id = []) || (!openB c && !decide (c.st = 8)) || decide (c.beg < 0) || decide (c.last < c.beg) || decide (1099511627776 < c.last) || decide (c.tr < 0) || decide (2147483647 < c.tr)
def badB (c : Ca) : Bool := ansB c && (decide (c.ans < c.beg) || decide (c.last < c.ans))
def badC (c : Ca) : Bool := (c.h0 || c.h1) && (!ansB c || !inB c.st [3, 4, 8])
def badD (c : Ca) : Bool := decide (0 < c.tr) && (!ansB c || decide (c.st = 7))
def tailF (c : Ca) : Bool := if c.st = 8 then (if ansB c = true then decide (c.fin = c.last) && (decide (c.code = 0) || decide (c.code = 408) || decide (c.code = 500)) else decide (c.fin = c.last) && decide (300 ≤ c.code) && decide (c.code ≤ 699))
  else (ansB c != earlyB c) && decide (c.fin = -1) && decide (c.code = 0)
def validF (c : Ca) : Bool := decide (c = zeroC) || (!badA c && !badB c && !badC c && !badD c && tailF c)

theorem flat2n (a b : Bool) : binAV .neq (.flat [1, 1]) (.agg [.bool a, .bool b]) (.agg [.bool false, .bool false]) = some (.bool (a || b)) := by
  cases a <;> cases b <;> rfl

theorem co_open (c : Ca) {H : Heap} {K : AV → Heap → Prop} : callK (CE TC) 25 [.agg [.str c.id, .int .u8 c.st, .bool c.h0, .bool c.h1, .int .i64 c.code, .int .i64 c.beg, .int .i64 c.last, .int .i64 c.ans, .int .i64 c.fin, .int .i64 c.tr]] H K = K (.bool (openB c)) H := tc_open
theorem co_early (c : Ca) {H : Heap} {K : AV → Heap → Prop} : callK (CE TC) 27 [.agg [.str c.id, .int .u8 c.st, .bool c.h0, .bool c.h1, .int .i64 c.code, .int .i64 c.beg, .int .i64 c.last, .int .i64 c.ans, .int .i64 c.fin, .int .i64 c.tr]] H K = K (.bool (earlyB c)) H := tc_early
theorem co_early2 (c : Ca) {H : Heap} {K : AV → Heap → Prop} : callK (CE TC) 28 [.agg [.str c.id, .int .u8 c.st, .bool c.h0, .bool c.h1, .int .i64 c.code, .int .i64 c.beg, .int .i64 c.last, .int .i64 c.ans, .int .i64 c.fin, .int .i64 c.tr]] H K = K (.bool (earlyB c)) H := tc_early2
theorem co_open2 (c : Ca) {H : Heap} {K : AV → Heap → Prop} : callK (CE TC) 29 [.agg [.str c.id, .int .u8 c.st, .bool c.h0, .bool c.h1, .int .i64 c.code, .int .i64 c.beg, .int .i64 c.last, .int .i64 c.ans, .int .i64 c.fin, .int .i64 c.tr]] H K = K (.bool (openB c)) H := tc_open2
def m15t : MCode :=
  (.seq (.region m15r5 [1, 3])
  (.seq (.seq (.region m15r6 [1, 3, 64]) (.cond (.tmp 64) (.seq (.region m15r7 [2]) .ret) .skip))
  (.seq (.seq (.region m15r8 [1, 3, 78]) (.cond (.tmp 78) (.seq (.region m15r9 [2]) .ret) .skip))
  (.seq (.seq (.region m15r10 [1, 3, 90]) (.cond (.tmp 90) (.seq (.region m15r11 [2]) .ret) .skip))
  (.seq (.seq (.region m15r12 [1, 3, 93]) (.cond (.tmp 93) (.seq (.region m15r13 [2]) .ret) .skip))
  (.seq (.seq (.region m15r14 [1, 108]) (.cond (.tmp 108) (.seq (.region m15r15 [2]) .ret) .skip))
  (.seq (.region m15r16 [2]) .ret)))))))
def Q15 (v : Bool) : Ex → Env → Heap → Prop := fun e σ H1 => (e = .normal ∨ e = .ret) ∧ Fin [] (σ.get 2) H1 (.bool v) []
theorem valid15t (c : Ca) (v : Bool) (hv : v = (!badB c && !badC c && !badD c && tailF c)) (σ : Env) (g1 : σ.get 1 = .ptr 0 0 0 0) : wpC (CE TC) [] m15t σ [.rows 0 10 [c.row]] (Q15 v) := by
  have fin : ∀ {σ : Env} {x : Bool} {H : Heap}, σ.get 2 = .bool x → x = v → Q15 v .ret σ H := fun {σ x H} h1 h => ⟨.inr rfl, by rw [h1]; exact fin_bool h⟩
  unfold m15t
  simp [m15r5, g1, Ca.row]
  simp +contextual (maxSteps := 1000000) [m15r6, -condK_bool]
  refine condK_of (y := badB c) ?_ (fun h => ?_) (fun hB => ?_)
  · simp [badB, ansB]
  · simp [m15r7]
    exact fin rfl (by rw [hv, h]; rfl)
  rw [hB] at hv
  simp +contextual (maxSteps := 1000000) [m15r8, flat2n, tc_i348, -condK_bool]
  refine condK_of (y := badC c) ?_ (fun h => ?_) (fun hC => ?_)
  · simp [badC, ansB]
  · simp [m15r9]
    exact fin rfl (by rw [hv, h]; rfl)
  rw [hC] at hv
  simp +contextual (maxSteps := 1000000) [m15r10, -condK_bool]
  refine condK_of (y := badD c) ?_ (fun h => ?_) (fun hD => ?_)
  · simp [badD, ansB]
  · simp [m15r11]
    exact fin rfl (by rw [hv, h]; rfl)
  rw [hD] at hv
  simp only [Bool.not_false, Bool.true_and] at hv
  unfold tailF at hv
  simp [m15r12]
  refine ⟨fun h8 => ?_, fun h8 => ?_⟩
  · rw [if_neg h8] at hv
    simp +contextual (maxSteps := 1000000) [m15r13, co_early]
    exact fin rfl (by rw [hv]; cases h1 : ansB c <;> cases h2 : earlyB c <;> simp_all [ansB])
  rw [if_pos h8] at hv
  simp [m15r14]
  refine ⟨fun ha => ?_, fun ha => ?_⟩
  · rw [if_pos (by simp [ansB, ha])] at hv
    simp +contextual (maxSteps := 1000000) [m15r15]
    exact fin rfl (by rw [hv])
  · rw [if_neg (by simp [ansB, ha])] at hv
    simp +contextual (maxSteps := 1000000) [m15r16]
    exact fin rfl (by rw [hv])

theorem valid15 (c : Ca) : Spec Try.prog 15 [.agg c.row] [] (.bool (validF c)) [] := by
  refine spec_of_wp (C := CE TC) CE_ok mixed m15_ok (show 1 ≤ _ by decide) ?_
  show wpC _ _ (.seq (.region m15r0 [1]) (.seq (.seq (.region m15r1 [1, 6]) (.cond (.tmp 6) (.seq (.region m15r2 [2]) .ret) .skip)) (.seq (.seq (.region m15r3 [1, 46]) (.cond (.tmp 46) (.seq (.region m15r4 [2]) .ret) .skip)) m15t))) _ _ _
  have fin : ∀ {x : Bool} {H : Heap}, x = validF c → Fin [] (.bool x) H (.bool (validF c)) [] := fun h => fin_bool h
  obtain ⟨v, hv⟩ : ∃ v, v = validF c := ⟨_, rfl⟩
  rw [← hv] at fin ⊢
  unfold validF at hv
  have rest : badA c = false → c ≠ zeroC → ∀ σ : Env, σ.get 1 = .ptr 0 0 0 0 → wpC (CE TC) [] m15t σ [.rows 0 10 [c.row]] (Q15 v) := fun hA hz σ g1 => valid15t c v (by rw [hv, hA, decide_eq_false hz]; simp) σ g1
  generalize m15t = T at *
  simp [m15r0, envOf, m15r1, flat10e]
  refine ⟨fun hz => ?_, fun hz => ?_⟩
  · simp [m15r2]
    exact ⟨_, rfl, fin (by rw [hv, decide_eq_true hz]; rfl)⟩
  rw [decide_eq_false hz, Bool.false_or] at hv
  have bad1 : badA c = true → v = false := fun h => by rw [hv, h]; rfl
  by_cases hid : c.id = []
  · simp [m15r3, Ca.row, hid, m15r4]
    exact ⟨_, rfl, fin (bad1 (by simp [badA, hid])).symm⟩
  by_cases ho : openB c = false ∧ ¬ c.st = 8
  · simp [m15r3, Ca.row, co_open, hid, ho.1, ho.2, m15r4]
    exact ⟨_, rfl, fin (bad1 (by simp [badA, ho.1, ho.2])).symm⟩
  have hoo : (!openB c && !decide (c.st = 8)) = false := by
    cases h : openB c with
    | true => rfl
    | false =>
      have : c.st = 8 := Classical.byContradiction fun h' => ho ⟨h, h'⟩
      simp [this]
  have hA' : badA c = (decide (c.beg < 0) || decide (c.last < c.beg) || decide (1099511627776 < c.last) || decide (c.tr < 0) || decide (2147483647 < c.tr)) := by
    unfold badA; rw [hoo, decide_eq_false hid]; rfl
  have bad2 : (decide (c.beg < 0) || decide (c.last < c.beg) || decide (1099511627776 < c.last) || decide (c.tr < 0) || decide (2147483647 < c.tr)) = true → v = false := fun h => bad1 (by rw [hA', h])
  have rest2 : (decide (c.beg < 0) || decide (c.last < c.beg) || decide (1099511627776 < c.last) || decide (c.tr < 0) || decide (2147483647 < c.tr)) = false → ∀ σ : Env, σ.get 1 = .ptr 0 0 0 0 → wpC (CE TC) [] T σ [.rows 0 10 [c.row]] (Q15 v) := fun h => rest (by rw [hA', h]) hz
  cases ho1 : openB c with
  | true =>
    simp +contextual (maxSteps := 1000000) [m15r3, Ca.row, co_open, hid, ho1, -condK_bool]
    refine condK_of rfl (fun h => ?_) (fun h => ?_)
    · simp [m15r4]
      exact ⟨_, rfl, fin (bad2 h).symm⟩
    · exact wpC_mono (Q := Q15 v) (fun e σ H1 (h : Q15 v e σ H1) => ⟨h.1, _, rfl, h.2⟩) (rest2 h _ rfl)
  | false =>
    have h81 : c.st = 8 := Classical.byContradiction fun h => ho ⟨ho1, h⟩
    have h8p : (c.st = 8) = True := eq_true h81
    simp +contextual (maxSteps := 1000000) [m15r3, Ca.row, co_open, hid, ho1, h8p, -condK_bool]
    refine condK_of rfl (fun h => ?_) (fun h => ?_)
    · simp [m15r4]
      exact ⟨_, rfl, fin (bad2 h).symm⟩
    · exact wpC_mono (Q := Q15 v) (fun e σ H1 (h : Q15 v e σ H1) => ⟨h.1, _, rfl, h.2⟩) (rest2 h _ rfl)
end Go.Ab.Try.S

/- Valid of the document. Conditions: none. -/
namespace Go.Ab.Try.S
open Go.Proofs

def noneB (c : Ca) : Bool := decide (c.ans = -1)
def someB (c : Ca) : Bool := decide (c.beg ≤ c.ans) && decide (c.ans ≤ c.last)
def rA (c : Ca) : Bool := decide (c.id = []) || decide (c.st < 1) || decide (8 < c.st) || decide (c.beg < 0) || decide (1099511627776 < c.beg) || decide (c.last < c.beg) || decide (1099511627776 < c.last) || decide (c.tr < 0) || decide (2147483647 < c.tr)
def rB (c : Ca) : Bool := (!noneB c && !someB c) || (earlyB c && !noneB c) || (openB c && !earlyB c && !someB c)
def rC (c : Ca) : Bool := if c.st = 8 then !decide (c.fin = c.last) || (noneB c && (decide (c.code < 300) || decide (699 < c.code))) || (!noneB c && !decide (c.code = 0) && !decide (c.code = 408) && !decide (c.code = 500))
  else !decide (c.fin = -1) || !decide (c.code = 0)
def rD (c : Ca) : Bool := (c.h0 || c.h1) && (noneB c || (!decide (c.st = 3) && !decide (c.st = 4) && !decide (c.st = 8)))
def rE (c : Ca) : Bool := !(noneB c || decide (c.st = 7)) || decide (c.tr = 0)
def validR (c : Ca) : Bool := decide (c = zeroC) || (!rA c && !rB c && !rC c && !rD c && rE c)

def m16t : MCode :=
  (.seq (.seq (.region m16r9 [1, 3, 98]) (.cond (.tmp 98) (.seq (.region m16r10 [1, 3, 135]) (.cond (.tmp 135) (.seq (.region m16r11 [2]) .ret) .skip)) (.seq (.region m16r12 [1, 3, 143]) (.cond (.tmp 143) (.seq (.region m16r13 [2]) .ret) .skip))))
  (.seq (.region m16r14 [1, 3, 5])
  (.seq (.seq (.region m16r15 [1, 3, 170]) (.cond (.tmp 170) (.seq (.region m16r16 [2]) .ret) .skip))
  (.seq (.region m16r17 [2]) .ret))))

theorem valid16u (c : Ca) (v : Bool) (hv : v = (!rD c && rE c)) (σ : Env) (g1 : σ.get 1 = .ptr 0 0 0 0) (g3 : σ.get 3 = .bool (noneB c)) : wpC (CE TC) [] (.seq (.region m16r14 [1, 3, 5])
  (.seq (.seq (.region m16r15 [1, 3, 170]) (.cond (.tmp 170) (.seq (.region m16r16 [2]) .ret) .skip))
  (.seq (.region m16r17 [2]) .ret))) σ [.rows 0 10 [c.row]] (Q15 v) := by
  have fin : ∀ {σ : Env} {x : Bool} {H : Heap}, σ.get 2 = .bool x → x = v → Q15 v .ret σ H := fun {σ x H} h1 h => ⟨.inr rfl, by rw [h1]; exact fin_bool h⟩
  cases hn : noneB c <;> cases h0 : c.h0 <;> rw [hn] at g3
  all_goals
    simp [m16r14, g1, g3, Ca.row, h0, aaddrAV]
    simp +contextual [m16r15, -condK_bool, -condK_t, -condK_f]
    refine condK_of (y := rD c) (by simp [rD, hn, h0, Bool.and_assoc]) (fun h => ?_) (fun h => ?_)
    · simp [m16r16]
      exact fin rfl (by rw [hv, h]; rfl)
    · simp +contextual [m16r17]
      refine fin rfl ?_
      rw [hv, h]
      simp [rE, hn]

theorem valid16t (c : Ca) (v : Bool) (hv : v = (!rC c && !rD c && rE c)) (σ : Env) (g1 : σ.get 1 = .ptr 0 0 0 0) (g3 : σ.get 3 = .bool (noneB c)) : wpC (CE TC) [] m16t σ [.rows 0 10 [c.row]] (Q15 v) := by
  have fin : ∀ {σ : Env} {x : Bool} {H : Heap}, σ.get 2 = .bool x → x = v → Q15 v .ret σ H := fun {σ x H} h1 h => ⟨.inr rfl, by rw [h1]; exact fin_bool h⟩
  unfold m16t
  have rest := fun h σ g1 g3 => valid16u c v (show v = (!rD c && rE c) by rw [hv, show rC c = false from h]; simp) σ g1 g3
  have bad : rC c = true → v = false := fun h => by rw [hv, h]; rfl
  generalize (MCode.seq (.region m16r14 [1, 3, 5])
    (.seq (.seq (.region m16r15 [1, 3, 170]) (.cond (.tmp 170) (.seq (.region m16r16 [2]) .ret) .skip))
    (.seq (.region m16r17 [2]) .ret))) = T at *
  unfold rC at bad rest
  simp [m16r9, g1, g3, Ca.row]
  refine ⟨fun h8 => ?_, fun h8 => ?_⟩
  · rw [if_pos h8] at bad rest
    cases hn : noneB c <;> rw [hn] at bad rest
    all_goals
      simp +contextual (maxSteps := 1000000) [m16r10, -condK_bool]
      refine condK_of rfl (fun h => ?_) (fun h => ?_)
      · simp [m16r11]
        exact fin rfl (bad (by simpa using h)).symm
      · exact rest (by simpa using h) _ rfl rfl
  · rw [if_neg h8] at bad rest
    simp +contextual (maxSteps := 1000000) [m16r12, -condK_bool]
    refine condK_of rfl (fun h => ?_) (fun h => ?_)
    · simp [m16r13]
      exact fin rfl (bad h).symm
    · exact rest h _ rfl rfl

def m16s : MCode := .seq (.seq (.region m16r7 [1, 3, 95]) (.cond (.tmp 95) (.seq (.region m16r8 [2]) .ret) .skip)) m16t
theorem valid16s (c : Ca) (v : Bool) (hv : v = (!rB c && !rC c && !rD c && rE c)) (σ : Env) (g1 : σ.get 1 = .ptr 0 0 0 0) (g3 : σ.get 3 = .bool (noneB c)) (g4 : σ.get 4 = .bool (someB c)) : wpC (CE TC) [] m16s σ [.rows 0 10 [c.row]] (Q15 v) := by
  have fin : ∀ {σ : Env} {x : Bool} {H : Heap}, σ.get 2 = .bool x → x = v → Q15 v .ret σ H := fun {σ x H} h1 h => ⟨.inr rfl, by rw [h1]; exact fin_bool h⟩
  unfold m16s
  have rest := fun h σ g1 g3 => valid16t c v (show v = (!rC c && !rD c && rE c) by rw [hv, show rB c = false from h]; simp) σ g1 g3
  have bad : rB c = true → v = false := fun h => by rw [hv, h]; rfl
  generalize m16t = T at *
  unfold rB at bad rest
  cases hn : noneB c <;> cases hs : someB c <;> cases he : earlyB c <;> cases ho : openB c <;> rw [hn] at g3 bad rest <;> rw [hs] at g4 bad rest <;> rw [he] at bad rest <;> rw [ho] at bad rest
  all_goals
    simp [m16r7, g1, g3, g4, Ca.row, co_early2, co_open2, he, ho]
    first | exact rest rfl _ rfl rfl | (simp [m16r8]; exact fin rfl (bad rfl).symm)

theorem valid16 (c : Ca) : Spec Try.prog 16 [.agg c.row] [] (.bool (validR c)) [] := by
  refine spec_of_wp (C := CE TC) CE_ok mixed m16_ok (show 1 ≤ _ by decide) ?_
  show wpC _ _ (.seq (.region m16r0 [1]) (.seq (.seq (.region m16r1 [1, 8]) (.cond (.tmp 8) (.seq (.region m16r2 [2]) .ret) .skip)) (.seq (.seq (.region m16r3 [1, 53]) (.cond (.tmp 53) (.seq (.region m16r4 [2]) .ret) .skip)) (.seq (.region m16r5 [1, 3]) (.seq (.region m16r6 [1, 3, 4]) m16s))))) _ _ _
  have fin : ∀ {x : Bool} {H : Heap}, x = validR c → Fin [] (.bool x) H (.bool (validR c)) [] := fun h => fin_bool h
  obtain ⟨v, hv⟩ : ∃ v, v = validR c := ⟨_, rfl⟩
  rw [← hv] at fin ⊢
  unfold validR at hv
  have rest : rA c = false → c ≠ zeroC → ∀ σ : Env, σ.get 1 = .ptr 0 0 0 0 → σ.get 3 = .bool (noneB c) → σ.get 4 = .bool (someB c) → wpC (CE TC) [] m16s σ [.rows 0 10 [c.row]] (Q15 v) :=
    fun hA hz σ g1 g3 g4 => valid16s c v (by rw [hv, hA, decide_eq_false hz]; simp) σ g1 g3 g4
  generalize m16s = T at *
  simp [m16r0, envOf, m16r1, flat10e]
  refine ⟨fun hz => ?_, fun hz => ?_⟩
  · simp [m16r2]
    exact ⟨_, rfl, fin (by rw [hv, decide_eq_true hz]; rfl)⟩
  simp +contextual (maxSteps := 1000000) [m16r3, Ca.row, -condK_bool]
  refine condK_of (y := rA c) (by simp [rA]) (fun h => ?_) (fun h => ?_)
  · simp [m16r4]
    exact ⟨_, rfl, fin (by rw [hv, decide_eq_false hz, h]; rfl)⟩
  · simp +contextual [m16r5, m16r6]
    exact wpC_mono (Q := Q15 v) (fun e σ H1 (h : Q15 v e σ H1) => ⟨h.1, _, rfl, h.2⟩) (rest h hz _ rfl rfl rfl)
end Go.Ab.Try.S

/- Valid calls, in words; an event leaves them valid. Conditions: none. -/
namespace Go.Ab.Try.S
open Go.Proofs

def VP (c : Ca) : Prop := c.id ≠ [] ∧ (1 ≤ c.st ∧ c.st ≤ 8) ∧ (0 ≤ c.beg ∧ c.beg ≤ c.last ∧ c.last ≤ 1099511627776) ∧ (0 ≤ c.tr ∧ c.tr ≤ 2147483647) ∧ (c.ans = -1 ∨ (c.beg ≤ c.ans ∧ c.ans ≤ c.last)) ∧
  ((c.st = 1 ∨ c.st = 2 ∨ c.st = 6) → c.ans = -1) ∧ ((c.st = 3 ∨ c.st = 4 ∨ c.st = 5 ∨ c.st = 7) → c.ans ≠ -1) ∧
  (c.st = 8 → c.fin = c.last ∧ (c.ans = -1 → 300 ≤ c.code ∧ c.code ≤ 699) ∧ (c.ans ≠ -1 → c.code = 0 ∨ c.code = 408 ∨ c.code = 500)) ∧ (c.st ≠ 8 → c.fin = -1 ∧ c.code = 0) ∧
  ((c.h0 || c.h1) = true → c.ans ≠ -1 ∧ (c.st = 3 ∨ c.st = 4 ∨ c.st = 8)) ∧ (0 < c.tr → c.ans ≠ -1 ∧ c.st ≠ 7)

theorem validF_iff (c : Ca) : validF c = true ↔ c = zeroC ∨ VP c := by
  unfold validF VP badA badB badC badD tailF ansB openB earlyB inB
  rw [Bool.or_eq_true, decide_eq_true_eq]
  refine or_congr_right ?_
  by_cases hid : c.id = []
  · simp [hid]
  cases (c.h0 || c.h1)
  all_goals
    by_cases h8 : c.st = 8 <;> by_cases ha : c.ans = -1
  all_goals
    simp [hid, h8, ha]
    try omega
theorem validR_iff (c : Ca) : validR c = true ↔ c = zeroC ∨ VP c := by
  unfold validR VP rA rB rC rD rE noneB someB openB earlyB
  rw [Bool.or_eq_true, decide_eq_true_eq]
  refine or_congr_right ?_
  by_cases hid : c.id = []
  · simp [hid]
  cases (c.h0 || c.h1)
  all_goals
    by_cases h8 : c.st = 8 <;> by_cases ha : c.ans = -1
  all_goals
    simp [hid, h8, ha]
    try omega
end Go.Ab.Try.S

/- An event leaves a valid call valid. Conditions: none. -/
namespace Go.Ab.Try.S
open Go.Proofs

def Sp (c : Ca) (e : Ev) (d : Ca) : Prop := VP d ∧ d.last = e.at_ ∧ d.id = e.call ∧ c.last ≤ d.last ∧
  (c.st = 0 → d.ans = -1) ∧ (c.st ≠ 0 → (d.ans = c.ans ∨ (c.ans = -1 ∧ d.ans = e.at_)) ∧ d.beg = c.beg ∧ c.tr ≤ d.tr)

theorem ev_code {e : Ev} (h : evB e = true) : (e.kind = 4 → 300 ≤ e.code ∧ e.code ≤ 699) ∧ (e.kind ≠ 4 → e.code = 0) := by
  unfold evB at h
  simp only [Bool.and_eq_true] at h
  obtain ⟨_, h⟩ := h
  constructor
  · intro h4
    rw [if_pos h4] at h
    simpa using h
  · intro h4
    rw [if_neg h4] at h
    simpa using h

theorem change_valid2 {c : Ca} {e : Ev} (hv : VP c) (he : evB e = true) (hid : e.call = c.id) (hl : ¬ e.at_ < c.last) (hm : mayF c e = true) (h : e.kind = 2) : Sp c e { changeF c e with last := e.at_ } := by
  obtain ⟨hk, hs, hat, hcall⟩ := ev_parts he
  obtain ⟨hc4, hc0⟩ := ev_code he
  obtain ⟨v1, v2, v3, v4, v5, v6, v7, v8, v9, v10, v11⟩ := hv
  clear he hk
  rw [hid] at hcall
  simp [h] at hc4 hc0
  simp [mayF, h, inB] at hm
  have hst : c.st = 1 ∨ c.st = 2 := by omega
  clear hm
  rcases hst with hst | hst
  all_goals
    simp [hst] at v6 v7 v8 v9 v10 v11
  all_goals
    simp [Sp, VP, changeF, h, hst, hid, hcall]
  all_goals
    repeat' apply And.intro
  all_goals
    intros
    first | assumption | omega | (simp_all; done) | (simp_all; omega)
theorem change_valid3 {c : Ca} {e : Ev} (hv : VP c) (he : evB e = true) (hid : e.call = c.id) (hl : ¬ e.at_ < c.last) (hm : mayF c e = true) (h : e.kind = 3) : Sp c e { changeF c e with last := e.at_ } := by
  obtain ⟨hk, hs, hat, hcall⟩ := ev_parts he
  obtain ⟨hc4, hc0⟩ := ev_code he
  obtain ⟨v1, v2, v3, v4, v5, v6, v7, v8, v9, v10, v11⟩ := hv
  clear he hk
  rw [hid] at hcall
  simp [h] at hc4 hc0
  simp [mayF, h, earlyB] at hm
  have hst : c.st = 1 ∨ c.st = 2 ∨ c.st = 6 := by omega
  clear hm
  rcases hst with hst | hst | hst
  all_goals
    simp [hst] at v6 v7 v8 v9 v10 v11
  all_goals
    simp [Sp, VP, changeF, h, hst, hid, hcall]
  all_goals
    repeat' apply And.intro
  all_goals
    intros
    first | assumption | omega | (simp_all; done) | (simp_all; omega)
theorem change_valid4 {c : Ca} {e : Ev} (hv : VP c) (he : evB e = true) (hid : e.call = c.id) (hl : ¬ e.at_ < c.last) (hm : mayF c e = true) (h : e.kind = 4) : Sp c e { changeF c e with last := e.at_ } := by
  obtain ⟨hk, hs, hat, hcall⟩ := ev_parts he
  obtain ⟨hc4, hc0⟩ := ev_code he
  obtain ⟨v1, v2, v3, v4, v5, v6, v7, v8, v9, v10, v11⟩ := hv
  clear he hk
  rw [hid] at hcall
  simp [h] at hc4 hc0
  simp [mayF, h, earlyB] at hm
  have hst : c.st = 1 ∨ c.st = 2 ∨ c.st = 6 := by omega
  clear hm
  rcases hst with hst | hst | hst
  all_goals
    simp [hst] at v6 v7 v8 v9 v10 v11
  all_goals
    simp [Sp, VP, changeF, h, endF, hst, hid, hcall]
  all_goals
    repeat' apply And.intro
  all_goals
    intros
    first | assumption | omega | (simp_all; done) | (simp_all; omega)
theorem change_valid5 {c : Ca} {e : Ev} (hv : VP c) (he : evB e = true) (hid : e.call = c.id) (hl : ¬ e.at_ < c.last) (hm : mayF c e = true) (h : e.kind = 5) : Sp c e { changeF c e with last := e.at_ } := by
  obtain ⟨hk, hs, hat, hcall⟩ := ev_parts he
  obtain ⟨hc4, hc0⟩ := ev_code he
  obtain ⟨v1, v2, v3, v4, v5, v6, v7, v8, v9, v10, v11⟩ := hv
  clear he hk
  rw [hid] at hcall
  simp [h] at hc4 hc0
  simp [mayF, h, earlyB] at hm
  have hst : c.st = 1 ∨ c.st = 2 ∨ c.st = 6 := by omega
  clear hm
  rcases hst with hst | hst | hst
  all_goals
    simp [hst] at v6 v7 v8 v9 v10 v11
  all_goals
    simp [Sp, VP, changeF, h, endF, hst, hid, hcall]
  all_goals
    repeat' apply And.intro
  all_goals
    intros
    first | assumption | omega | (simp_all; done) | (simp_all; omega)
theorem change_valid6 {c : Ca} {e : Ev} (hv : VP c) (he : evB e = true) (hid : e.call = c.id) (hl : ¬ e.at_ < c.last) (hm : mayF c e = true) (h : e.kind = 6) : Sp c e { changeF c e with last := e.at_ } := by
  obtain ⟨hk, hs, hat, hcall⟩ := ev_parts he
  obtain ⟨hc4, hc0⟩ := ev_code he
  obtain ⟨v1, v2, v3, v4, v5, v6, v7, v8, v9, v10, v11⟩ := hv
  clear he hk
  rw [hid] at hcall
  simp [h] at hc4 hc0
  simp [mayF, h, inB] at hm
  have hst : c.st = 3 := by omega
  clear hm
  all_goals
    simp [hst] at v6 v7 v8 v9 v10 v11
  all_goals
    rcases hs with hs | hs
  all_goals
    simp [Sp, VP, changeF, h, setH, hst, hid, hcall, hs]
  all_goals
    repeat' apply And.intro
  all_goals
    intros
    first | assumption | omega | (simp_all; done) | (simp_all; omega)
theorem change_valid7 {c : Ca} {e : Ev} (hv : VP c) (he : evB e = true) (hid : e.call = c.id) (hl : ¬ e.at_ < c.last) (hm : mayF c e = true) (h : e.kind = 7) : Sp c e { changeF c e with last := e.at_ } := by
  obtain ⟨hk, hs, hat, hcall⟩ := ev_parts he
  obtain ⟨hc4, hc0⟩ := ev_code he
  obtain ⟨v1, v2, v3, v4, v5, v6, v7, v8, v9, v10, v11⟩ := hv
  clear he hk
  rw [hid] at hcall
  simp [h] at hc4 hc0
  simp [mayF, h, inB] at hm
  have hst : c.st = 3 := by omega
  clear hm
  all_goals
    simp [hst] at v6 v7 v8 v9 v10 v11
  all_goals
    rcases hs with hs | hs
  all_goals
    simp [Sp, VP, changeF, h, setH, hst, hid, hcall, hs]
  all_goals
    repeat' apply And.intro
  all_goals
    intros
    first | assumption | omega | (simp_all; done) | (simp_all; omega)
theorem change_valid8 {c : Ca} {e : Ev} (hv : VP c) (he : evB e = true) (hid : e.call = c.id) (hl : ¬ e.at_ < c.last) (hm : mayF c e = true) (h : e.kind = 8) : Sp c e { changeF c e with last := e.at_ } := by
  obtain ⟨hk, hs, hat, hcall⟩ := ev_parts he
  obtain ⟨hc4, hc0⟩ := ev_code he
  obtain ⟨v1, v2, v3, v4, v5, v6, v7, v8, v9, v10, v11⟩ := hv
  clear he hk
  rw [hid] at hcall
  simp [h] at hc4 hc0
  simp [mayF, h, inB] at hm
  have hst : c.st = 3 ∨ c.st = 4 ∨ c.st = 5 ∨ c.st = 7 := by omega
  clear hm
  rcases hst with hst | hst | hst | hst
  all_goals
    simp [hst] at v6 v7 v8 v9 v10 v11
  all_goals
    simp [Sp, VP, changeF, h, endF, hst, hid, hcall]
  all_goals
    repeat' apply And.intro
  all_goals
    intros
    first | assumption | omega | (simp_all; done) | (simp_all; omega)
theorem change_valid9 {c : Ca} {e : Ev} (hv : VP c) (he : evB e = true) (hid : e.call = c.id) (hl : ¬ e.at_ < c.last) (hm : mayF c e = true) (h : e.kind = 9) : Sp c e { changeF c e with last := e.at_ } := by
  obtain ⟨hk, hs, hat, hcall⟩ := ev_parts he
  obtain ⟨hc4, hc0⟩ := ev_code he
  obtain ⟨v1, v2, v3, v4, v5, v6, v7, v8, v9, v10, v11⟩ := hv
  clear he hk
  rw [hid] at hcall
  simp [h] at hc4 hc0
  simp [mayF, h, inB] at hm
  have hst : c.st = 3 := by omega
  clear hm
  all_goals
    simp [hst] at v6 v7 v8 v9 v10 v11
  all_goals
    simp [Sp, VP, changeF, h, hst, hid, hcall]
  all_goals
    repeat' apply And.intro
  all_goals
    intros
    first | assumption | omega | (simp_all; done) | (simp_all; omega)
theorem change_valid10 {c : Ca} {e : Ev} (hv : VP c) (he : evB e = true) (hid : e.call = c.id) (hl : ¬ e.at_ < c.last) (hm : mayF c e = true) (h : e.kind = 10) : Sp c e { changeF c e with last := e.at_ } := by
  obtain ⟨hk, hs, hat, hcall⟩ := ev_parts he
  obtain ⟨hc4, hc0⟩ := ev_code he
  obtain ⟨v1, v2, v3, v4, v5, v6, v7, v8, v9, v10, v11⟩ := hv
  clear he hk
  rw [hid] at hcall
  simp [h] at hc4 hc0
  simp [mayF, h, inB] at hm
  have hst : c.st = 4 := by omega
  have hw : wrp .i64 (c.tr + 1) = c.tr + 1 := wrp_i64 (by omega)
  all_goals
    simp [hst] at v6 v7 v8 v9 v10 v11
  all_goals
    simp [Sp, VP, changeF, h, hst, hid, hcall, hw]
  all_goals
    repeat' apply And.intro
  all_goals
    intros
    first | assumption | omega | (simp_all; done) | (simp_all; omega)
theorem change_valid11 {c : Ca} {e : Ev} (hv : VP c) (he : evB e = true) (hid : e.call = c.id) (hl : ¬ e.at_ < c.last) (hm : mayF c e = true) (h : e.kind = 11) : Sp c e { changeF c e with last := e.at_ } := by
  obtain ⟨hk, hs, hat, hcall⟩ := ev_parts he
  obtain ⟨hc4, hc0⟩ := ev_code he
  obtain ⟨v1, v2, v3, v4, v5, v6, v7, v8, v9, v10, v11⟩ := hv
  clear he hk
  rw [hid] at hcall
  simp [h] at hc4 hc0
  simp [mayF, h, inB] at hm
  have hst : c.st = 4 := by omega
  clear hm
  all_goals
    simp [hst] at v6 v7 v8 v9 v10 v11
  all_goals
    simp [Sp, VP, changeF, h, hst, hid, hcall]
  all_goals
    repeat' apply And.intro
  all_goals
    intros
    first | assumption | omega | (simp_all; done) | (simp_all; omega)
theorem change_valid12 {c : Ca} {e : Ev} (hv : VP c) (he : evB e = true) (hid : e.call = c.id) (hl : ¬ e.at_ < c.last) (hm : mayF c e = true) (h : e.kind = 12) : Sp c e { changeF c e with last := e.at_ } := by
  obtain ⟨hk, hs, hat, hcall⟩ := ev_parts he
  obtain ⟨hc4, hc0⟩ := ev_code he
  obtain ⟨v1, v2, v3, v4, v5, v6, v7, v8, v9, v10, v11⟩ := hv
  clear he hk
  rw [hid] at hcall
  simp [h] at hc4 hc0
  simp [mayF, h, inB] at hm
  have hst : c.st = 1 := by omega
  clear hm
  all_goals
    simp [hst] at v6 v7 v8 v9 v10 v11
  all_goals
    simp [Sp, VP, changeF, h, hst, hid, hcall]
  all_goals
    repeat' apply And.intro
  all_goals
    intros
    first | assumption | omega | (simp_all; done) | (simp_all; omega)
theorem change_valid13 {c : Ca} {e : Ev} (hv : VP c) (he : evB e = true) (hid : e.call = c.id) (hl : ¬ e.at_ < c.last) (hm : mayF c e = true) (h : e.kind = 13) : Sp c e { changeF c e with last := e.at_ } := by
  obtain ⟨hk, hs, hat, hcall⟩ := ev_parts he
  obtain ⟨hc4, hc0⟩ := ev_code he
  obtain ⟨v1, v2, v3, v4, v5, v6, v7, v8, v9, v10, v11⟩ := hv
  clear he hk
  rw [hid] at hcall
  simp [h] at hc4 hc0
  simp [mayF, h, inB] at hm
  have hst : c.st = 3 := by omega
  clear hm
  all_goals
    simp [hst] at v6 v7 v8 v9 v10 v11
  all_goals
    simp [Sp, VP, changeF, h, hst, hid, hcall]
  all_goals
    repeat' apply And.intro
  all_goals
    intros
    first | assumption | omega | (simp_all; done) | (simp_all; omega)
theorem change_valid14 {c : Ca} {e : Ev} (hv : VP c) (he : evB e = true) (hid : e.call = c.id) (hl : ¬ e.at_ < c.last) (hm : mayF c e = true) (h : e.kind = 14) : Sp c e { changeF c e with last := e.at_ } := by
  obtain ⟨hk, hs, hat, hcall⟩ := ev_parts he
  obtain ⟨hc4, hc0⟩ := ev_code he
  obtain ⟨v1, v2, v3, v4, v5, v6, v7, v8, v9, v10, v11⟩ := hv
  clear he hk
  rw [hid] at hcall
  simp [h] at hc4 hc0
  simp [mayF, h, inB] at hm
  have hst : c.st = 5 := by omega
  have hw : wrp .i64 (c.tr + 1) = c.tr + 1 := wrp_i64 (by omega)
  all_goals
    simp [hst] at v6 v7 v8 v9 v10 v11
  all_goals
    simp [Sp, VP, changeF, h, hst, hid, hcall, hw]
  all_goals
    repeat' apply And.intro
  all_goals
    intros
    first | assumption | omega | (simp_all; done) | (simp_all; omega)
theorem change_valid15 {c : Ca} {e : Ev} (hv : VP c) (he : evB e = true) (hid : e.call = c.id) (hl : ¬ e.at_ < c.last) (hm : mayF c e = true) (h : e.kind = 15) : Sp c e { changeF c e with last := e.at_ } := by
  obtain ⟨hk, hs, hat, hcall⟩ := ev_parts he
  obtain ⟨hc4, hc0⟩ := ev_code he
  obtain ⟨v1, v2, v3, v4, v5, v6, v7, v8, v9, v10, v11⟩ := hv
  clear he hk
  rw [hid] at hcall
  simp [h] at hc4 hc0
  simp [mayF, h, earlyB] at hm
  have hst : c.st = 1 ∨ c.st = 2 ∨ c.st = 6 := by omega
  clear hm
  rcases hst with hst | hst | hst
  all_goals
    simp [hst] at v6 v7 v8 v9 v10 v11
  all_goals
    simp [Sp, VP, changeF, h, hst, hid, hcall]
  all_goals
    repeat' apply And.intro
  all_goals
    intros
    first | assumption | omega | (simp_all; done) | (simp_all; omega)
theorem change_valid16 {c : Ca} {e : Ev} (hv : VP c) (he : evB e = true) (hid : e.call = c.id) (hl : ¬ e.at_ < c.last) (hm : mayF c e = true) (h : e.kind = 16) : Sp c e { changeF c e with last := e.at_ } := by
  obtain ⟨hk, hs, hat, hcall⟩ := ev_parts he
  obtain ⟨hc4, hc0⟩ := ev_code he
  obtain ⟨v1, v2, v3, v4, v5, v6, v7, v8, v9, v10, v11⟩ := hv
  clear he hk
  rw [hid] at hcall
  simp [h] at hc4 hc0
  simp [mayF, h, openB] at hm
  have hst : c.st = 1 ∨ c.st = 2 ∨ c.st = 3 ∨ c.st = 4 ∨ c.st = 5 ∨ c.st = 6 ∨ c.st = 7 := by omega
  clear hm
  rcases hst with hst | hst | hst | hst | hst | hst | hst
  all_goals
    simp [hst] at v6 v7 v8 v9 v10 v11
  all_goals
    simp [Sp, VP, changeF, h, endF, hst, hid, hcall]
  all_goals
    repeat' apply And.intro
  all_goals
    intros
    first | assumption | omega | (simp_all; done) | (simp_all; omega)
theorem change_valid17 {c : Ca} {e : Ev} (hv : VP c) (he : evB e = true) (hid : e.call = c.id) (hl : ¬ e.at_ < c.last) (hm : mayF c e = true) (h : e.kind = 17) : Sp c e { changeF c e with last := e.at_ } := by
  obtain ⟨hk, hs, hat, hcall⟩ := ev_parts he
  obtain ⟨hc4, hc0⟩ := ev_code he
  obtain ⟨v1, v2, v3, v4, v5, v6, v7, v8, v9, v10, v11⟩ := hv
  clear he hk
  rw [hid] at hcall
  simp [h] at hc4 hc0
  simp [mayF, h, openB] at hm
  have hst : c.st = 1 ∨ c.st = 2 ∨ c.st = 3 ∨ c.st = 4 ∨ c.st = 5 ∨ c.st = 6 ∨ c.st = 7 := by omega
  clear hm
  rcases hst with hst | hst | hst | hst | hst | hst | hst
  all_goals
    simp [hst] at v6 v7 v8 v9 v10 v11
  all_goals
    simp [Sp, VP, changeF, h, endF, hst, hid, hcall]
  all_goals
    repeat' apply And.intro
  all_goals
    intros
    first | assumption | omega | (simp_all; done) | (simp_all; omega)
theorem change_valid {c : Ca} {e : Ev} (hv : VP c) (he : evB e = true) (hid : e.call = c.id) (hl : ¬ e.at_ < c.last) (hm : mayF c e = true) (h1 : e.kind ≠ 1) : Sp c e { changeF c e with last := e.at_ } := by
  obtain ⟨hk, _⟩ := ev_parts he
  have : e.kind = 2 ∨ e.kind = 3 ∨ e.kind = 4 ∨ e.kind = 5 ∨ e.kind = 6 ∨ e.kind = 7 ∨ e.kind = 8 ∨ e.kind = 9 ∨ e.kind = 10 ∨ e.kind = 11 ∨ e.kind = 12 ∨ e.kind = 13 ∨ e.kind = 14 ∨ e.kind = 15 ∨ e.kind = 16 ∨ e.kind = 17 := by omega
  rcases this with h | h | h | h | h | h | h | h | h | h | h | h | h | h | h | h
  · exact change_valid2 hv he hid hl hm h
  · exact change_valid3 hv he hid hl hm h
  · exact change_valid4 hv he hid hl hm h
  · exact change_valid5 hv he hid hl hm h
  · exact change_valid6 hv he hid hl hm h
  · exact change_valid7 hv he hid hl hm h
  · exact change_valid8 hv he hid hl hm h
  · exact change_valid9 hv he hid hl hm h
  · exact change_valid10 hv he hid hl hm h
  · exact change_valid11 hv he hid hl hm h
  · exact change_valid12 hv he hid hl hm h
  · exact change_valid13 hv he hid hl hm h
  · exact change_valid14 hv he hid hl hm h
  · exact change_valid15 hv he hid hl hm h
  · exact change_valid16 hv he hid hl hm h
  · exact change_valid17 hv he hid hl hm h

theorem apply_valid {c : Ca} {e : Ev} (hc : c = zeroC ∨ VP c) (hok : (applyF c e).2 = true) : Sp c e (applyF c e).1 := by
  unfold applyF at hok ⊢
  by_cases he : evB e = false
  · rw [if_pos he] at hok; cases hok
  rw [if_neg he] at hok ⊢
  have he : evB e = true := by simpa using he
  obtain ⟨hk, hs, hat, hcall⟩ := ev_parts he
  by_cases h1 : e.kind = 1
  · rw [if_pos h1] at hok ⊢
    by_cases hz : c = zeroC
    · rw [if_pos hz]
      subst hz
      simp [Sp, VP, startF, zeroC, hcall]
      omega
    · rw [if_neg hz] at hok; cases hok
  · rw [if_neg h1] at hok ⊢
    by_cases h : e.call = c.id ∧ ¬ e.at_ < c.last ∧ mayF c e = true
    · rw [if_pos h]
      obtain ⟨a, b, d⟩ := h
      rcases hc with rfl | hv
      · exact absurd a hcall
      · exact change_valid hv he a b d h1
    · rw [if_neg h] at hok; cases hok
theorem apply_no {c : Ca} {e : Ev} (h : (applyF c e).2 = false) : (applyF c e).1 = c := by
  unfold applyF at h ⊢
  split
  · rfl
  · rename_i h1
    rw [if_neg h1] at h
    split
    · rename_i h2
      rw [if_pos h2] at h
      split
      · rename_i h3; rw [if_pos h3] at h; cases h
      · rfl
    · rename_i h2
      rw [if_neg h2] at h
      split
      · rename_i h3; rw [if_pos h3] at h; cases h
      · rfl
end Go.Ab.Try.S
