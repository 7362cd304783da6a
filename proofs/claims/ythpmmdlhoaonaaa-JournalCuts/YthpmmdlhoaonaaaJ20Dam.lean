/- The header of a record: damaged, wrong. Conditions: none. -/
import Derived.Test.YthpmmdlhoaonaaaJ20Log
namespace Go.Ab.Try.S
open Go.Proofs

def wantB (n : Nat) : List UInt8 := 167 :: 0 :: numB n 4
def hdrBad (b : List UInt8) (n : Nat) : Bool := (List.range 6).any fun i => decide (i < b.length) && decide (i ≠ 1) && decide (gb b i ≠ gb (wantB n) i)
def wrongB (b : List UInt8) (n : Nat) : Bool :=
  hdrBad b n || (decide (8 ≤ b.length) && decide (4096 < 256 * gb b 6 + gb b 7)) || ((decide (9 ≤ b.length) && decide (gb b 8 ≠ 255 - gb b 6)) || (decide (10 ≤ b.length) && decide (gb b 9 ≠ 255 - gb b 7)))

theorem wantB_len (n : Nat) : (wantB n).length = 6 := by simp [wantB, numB_len]

theorem wrong38 (b : List UInt8) (n : Nat) (hn : n ≤ 1048576) (hb : b.length < 9223372036854775807) : Spec Try.prog 38 [.islice (rowsU8 b), .int .i64 n] [] (.bool (wrongB b n)) [] := by
  refine spec_of_wp (C := Spec Try.prog) (fun _ _ _ _ _ h => h) mixed m38_ok (show 2 ≤ _ by decide) ?_
  unfold m38
  simp [m38r0, m38r1, envOf]
  refine vc_call (number_in (by omega) (s := 4) (by omega) _) ?_
  simp
  refine W_app (rs := rowsU8 [167, 0]) rfl rfl (rowsU8_row _) (by simp [roomB, numB_len]) fun g => ?_
  rw [← rowsU8_append]
  simp [m38r2, numB_len]
  have hw : (167 : UInt8) :: 0 :: numB n 4 = wantB n := rfl
  rw [hw]
  have hwl := wantB_len n
  refine vc_loop (fun m σ H1 => ∃ i : Nat, m = 6 - i ∧ i ≤ 6 ∧ (∀ j, j < i → j < b.length → j ≠ 1 → gb b j = gb (wantB n) j) ∧ H1 = [.rows g 1 (rowsU8 (wantB n))] ∧ σ = [(0, .islice (rowsU8 b)), (5, .slice 0 g 0 6), (6, .int .i64 i)]) 6
    ⟨0, rfl, by omega, fun j h => by omega, rfl, rfl⟩ ?_
  rintro m σ H1 ⟨i, rfl, hi, hpre, rfl, rfl⟩
  simp +contextual (disch := first | trivial | assumption | omega | (simp +contextual; done) | (simp +contextual; omega)) [m38l8, m38r3, m38r4, iaddr_is, iaddr_sl, m38r5, m38r6, m38r7]
  refine ⟨fun h1 h2 => ⟨fun h3 h4 => fin_drop ?_, fun h3 => ⟨6 - (i + 1), by omega, i + 1, rfl, by omega, fun j hj hjb hj1 => ?_, by rw [wrp_i64 (by omega)]; rfl⟩⟩, fun h1 => ?_⟩
  · have : wrongB b n = true := by
      have : hdrBad b n = true := by
        unfold hdrBad
        rw [List.any_eq_true]
        exact ⟨i, List.mem_range.2 (by omega), by simp; exact ⟨⟨h2, by omega⟩, by omega⟩⟩
      simp [wrongB, this]
    rw [this]
    exact .refl .bool
  · by_cases e : j = i
    · subst e
      have := h3 (by omega)
      omega
    · exact hpre j (by omega) hjb hj1
  · have hh : hdrBad b n = false := by
      unfold hdrBad
      rw [List.any_eq_false]
      intro j hj
      have := List.mem_range.1 hj
      simp
      intro h2 h3
      exact hpre j (by omega) h2 h3
    have g6 := gb_lt b 6
    have g7 := gb_lt b 7
    have w1 : ∀ k, wrp .i64 (gb b k : Int) = (gb b k : Int) := fun k => wrp_i64 (by have := gb_lt b k; omega)
    have w2 : wrp .i64 (256 * (gb b 6 : Int)) = 256 * (gb b 6 : Int) := wrp_i64 (by omega)
    have w3 : wrp .i64 (256 * (gb b 6 : Int) + gb b 7) = 256 * (gb b 6 : Int) + gb b 7 := wrp_i64 (by omega)
    simp +contextual (disch := first | trivial | assumption | omega | (simp +contextual; done) | (simp +contextual; omega)) [m38r9, m38r10, m38r11, m38r12, m38r13, iaddr_is, w1, w2, w3]
    have w4 : wrp .i64 (255 - (gb b 6 : Int)) = 255 - (gb b 6 : Int) := wrp_i64 (by omega)
    have w5 : wrp .i64 (255 - (gb b 7 : Int)) = 255 - (gb b 7 : Int) := wrp_i64 (by omega)
    rw [w4, w5]
    refine ⟨fun h2 h3 => fin_bool ?_, fun h2 => fin_bool ?_⟩
    · rw [Bool.eq_iff_iff]; simp [wrongB, hh]; omega
    · rw [Bool.eq_iff_iff]; simp [wrongB, hh]; omega

theorem append_get {H N : Heap} {r : Nat} {b : ABlk} (h : H[r]? = some b) : (H ++ N)[r]? = some b := by
  rw [List.getElem?_append_left (List.getElem?_eq_some_iff.1 h).1]; exact h

theorem put_want (H : Heap) (n : Nat) (hn : n < 4294967296) : Spec Try.prog 32 [.slice H.length 0 0 2, .int .i64 4, .islice [[.int .u32 n]]] (H ++ [.rows 0 1 [[.int .u8 167], [.int .u8 0]]]) (.slice H.length 4 0 6) (H ++ [.rows 4 1 (rowsU8 (wantB n))]) := by
  have h := put_own (H := H ++ [.rows 0 1 (rowsU8 [167, 0])]) (r := H.length) (g := 0) (size := 4) (b := [167, 0]) (nums := [n]) (by simp) (by simp; omega) (by omega) (by simp) (by simp)
  have p1 : puts 4 [n] = numB n 4 := by simp [puts]
  have e1 : (H ++ [ABlk.rows 0 1 (rowsU8 [167, 0])]).set H.length (.rows 4 1 (rowsU8 (wantB n))) = H ++ [.rows 4 1 (rowsU8 (wantB n))] := by simp
  rw [p1, numB_len] at h
  rw [← e1]
  exact h

/-- The header of the record at the cursor. -/
theorem damaged_tail (H J : Heap) (b : List UInt8) (n : Nat) (x : Env) (hh : hdrBad b n = false) (hx : x.get 3 = .islice (rowsU8 b)) : wpC (Spec Try.prog) H ((MCode.dregion m37r11 m37r12 [] [3, 55]).seq (MCode.cond (Opd.tmp 55) ((MCode.region m37r13 [2]).seq MCode.ret) MCode.skip)) x (H ++ J)
    (seqK (Spec Try.prog) H ((MCode.dregion m37r14 m37r15 [] [2]).seq MCode.ret) fun e σ H1 => (e = Ex.normal ∨ e = Ex.ret) ∧ Fin H (σ.get 2) H1 (AV.bool (wrongB b n)) H) := by
  have g6 := gb_lt b 6
  have g7 := gb_lt b 7
  have w1 : ∀ k, wrp .i64 (gb b k : Int) = (gb b k : Int) := fun k => wrp_i64 (by have := gb_lt b k; omega)
  have w2 : wrp .i64 ((gb b 6 : Int) * 256) = (gb b 6 : Int) * 256 := wrp_i64 (by omega)
  have w3 : wrp .i64 ((gb b 6 : Int) * 256 + gb b 7) = (gb b 6 : Int) * 256 + gb b 7 := wrp_i64 (by omega)
  have w4 : min 8 (bitsOf .i64) = 8 := rfl
  have w5 : ∀ k, wrp .u8 ((toU .u8 (gb b k : Int) ^^^ mask .u8 : Nat) : Int) = 255 - (gb b k : Int) := fun k => not_u8 (gb_lt b k)
  generalize hG : H ++ J = G
  simp +contextual (disch := first | trivial | assumption | omega | (simp +contextual; done) | (simp +contextual; omega)) [m37r11, m37r12, m37r13, iaddr_is, w1, w2, w3, w4, hx]
  have fb : ∀ {x y : Bool}, x = y → Fin H (.bool x) G (.bool y) H := fun h => hG ▸ fin_bool_tmp h
  refine ⟨fun h1 h2 => fb ?_, fun h1 => ?_⟩
  · rw [Bool.eq_iff_iff]; simp [wrongB, hh]; omega
  · simp +contextual (disch := first | trivial | assumption | omega | (simp +contextual; done) | (simp +contextual; omega)) [m37r14, m37r15, iaddr_is, w5]
    refine fb ?_
    rw [Bool.eq_iff_iff]; simp [wrongB, hh]; omega

/-- The header of the record at the cursor. -/
theorem damaged37 (H : Heap) (r : Nat) (b : List UInt8) (n : Nat) (hr : H[r]? = some (.rows 0 2 [[.islice (rowsU8 b), .int .i64 n]])) (hn : n ≤ 1048576) (hb : b.length < 9223372036854775807) : Spec Try.prog 37 [.ptr r 0 0 0] H (.bool (wrongB b n)) H := by
  refine spec_of_wp (C := Spec Try.prog) (fun _ _ _ _ _ h => h) mixed m37_ok (show 1 ≤ _ by decide) ?_
  have hr1 := fun N : Heap => append_get (N := N) hr
  unfold m37
  simp [m37r0, m37r1, envOf, row_of hr]
  have e0 : wrp .u32 (n : Int) = (n : Int) := wrp_u32 (by omega)
  simp [m37r2, row_of (hr1 _), e0]
  have hlt := (List.getElem?_eq_some_iff.1 hr).1
  refine vc_call (put_want H n (by omega)) ?_
  have hwl := wantB_len n
  simp [m37r3, numB_len]
  have hm : min (b.length : Int) 6 = ((min b.length 6 : Nat) : Int) := by omega
  rw [hm]
  have ho : (H ++ [ABlk.rows 4 1 (rowsU8 (wantB n))])[H.length]? = some (.rows 4 1 (rowsU8 (wantB n))) := by simp
  refine vc_loop (fun m σ H1 => ∃ i : Nat, m = min b.length 6 - i ∧ i ≤ min b.length 6 ∧ (∀ j, j < i → j ≠ 1 → gb b j = gb (wantB n) j) ∧ H1 = H ++ [.rows 4 1 (rowsU8 (wantB n))] ∧
    σ = [(3, .islice (rowsU8 b)), (4, .slice H.length 4 0 6), (22, .int .i64 (min b.length 6 : Nat)), (23, .int .i64 i)]) (min b.length 6) ⟨0, by omega, by omega, fun j h => by omega, rfl, rfl⟩ ?_
  rintro m σ H1 ⟨i, rfl, hi, hpre, rfl, rfl⟩
  have hbr : ∀ k, k < b.length → k < (rowsU8 b).length := fun k h => by simpa using h
  simp +contextual (disch := first | trivial | assumption | omega | (simp +contextual; done) | (simp +contextual; omega)) [m37l10, m37r4, m37r5, m37r6, m37r7, m37r8, m37r9, iaddr_is, iaddr_sl, row_of ho]
  refine ⟨fun h1 => ⟨fun _ => by omega, fun _ => by omega, fun h3 h4 => fin_bool_tmp ?_, fun h3 => ⟨min b.length 6 - (i + 1), by omega, i + 1, rfl, by omega, fun j hj hj1 => ?_, by rw [wrp_i64 (by omega)]; rfl⟩⟩, fun h1 => ?_⟩
  · have : hdrBad b n = true := by
      unfold hdrBad
      rw [List.any_eq_true]
      exact ⟨i, List.mem_range.2 (by omega), by simp; exact ⟨⟨by omega, by omega⟩, by omega⟩⟩
    simp [wrongB, this]
  · by_cases e : j = i
    · subst e
      have := h3 (by omega)
      omega
    · exact hpre j (by omega) hj1
  · have hh : hdrBad b n = false := by
      unfold hdrBad
      rw [List.any_eq_false]
      intro j hj
      have := List.mem_range.1 hj
      simp
      intro h2 h3
      exact hpre j (by omega) h3
    exact damaged_tail H _ b n _ hh rfl
end Go.Ab.Try.S
