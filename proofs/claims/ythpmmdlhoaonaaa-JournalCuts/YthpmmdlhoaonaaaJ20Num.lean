/- The numbers of the journal as bytes: dialtoneref20.number. Conditions: none. -/
import Derived.Test.YthpmmdlhoaonaaaJ20Check
namespace Go.Ab.Try.S
open Go.Proofs

def numB (n : Nat) : Nat → List UInt8
  | 0 => []
  | i + 1 => UInt8.ofNat (n / 256 ^ i % 256) :: numB n i

theorem numB_len (n : Nat) : ∀ i, (numB n i).length = i
  | 0 => rfl
  | i + 1 => by simp [numB, numB_len n i]

theorem number33 (n s : Nat) (hn : n < 9223372036854775808) (hs : s ≤ 100) : Spec Try.prog 33 [.int .i64 n, .int .i64 s] [] (.islice (rowsU8 (numB n s))) [] := by
  refine spec_of_wp (C := Spec Try.prog) (fun _ _ _ _ _ h => h) mixed m33_ok (show 2 ≤ 21 by decide) ?_
  unfold m33
  simp [m33r0, m33r1, m33r2, envOf]
  refine vc_conv (σ' := [(0, .int .i64 n), (1, .int .i64 s), (5, .islice [])]) (conv_drop ?_) ?_
  · simp
    exact ⟨.refl .int, .refl .int, .nil0⟩
  simp
  refine vc_loop (fun m σ H => ∃ i q : Nat, m = s - i ∧ i ≤ s ∧ q = n / 256 ^ i ∧ H = [] ∧ σ = [(0, .int .i64 q), (1, .int .i64 s), (5, .islice (rowsU8 (numB n i))), (6, .int .i64 i)]) s ⟨0, n, by simp [numB, rowsU8]⟩ ?_
  rintro m σ H ⟨i, q, rfl, hi, hq, rfl, rfl⟩
  simp [m33l7, m33r3, m33r4, m33r8]
  refine ⟨fun hlt => ?_, fun hge => ?_⟩
  · have hqn : q < 9223372036854775808 := by
      have := Nat.div_le_self n (256 ^ i)
      omega
    have hw : wrp .u8 ((q : Int).tmod 256) = ((UInt8.ofNat (q % 256)).toNat : Int) := by
      have e : ((q : Int).tmod 256) = ((q % 256 : Nat) : Int) := rfl
      rw [e, wrpN_u8]
      simp
    rw [hw]
    obtain ⟨c', b, h1, h2⟩ := Own.append (bytes := 1) (own_new (H := []) (sz := 1) (rs := [[.int .u8 ((UInt8.ofNat (q % 256)).toNat : Int)]]) (by simp)) (x := .islice (rowsU8 (numB n i))) rfl (rowsU8_row _) (by simp [numB_len, roomB]; omega)
    refine W_of h1 ?_
    have e2 : ((q : Int).tdiv 256) = ((q / 256 : Nat) : Int) := rfl
    simp [m33r5, e2]
    rw [wrp_i64 (by omega)]
    refine vc_conv (σ' := [(0, .int .i64 (q / 256 : Nat)), (1, .int .i64 s), (5, .islice (rowsU8 (numB n (i + 1)))), (6, .int .i64 i)]) (conv_drop ?_) ?_
    · have := h2.freeze (rowsU8_plain (UInt8.ofNat (q % 256) :: numB n i))
      simp
      refine ⟨.refl .int, .refl .int, ?_, .refl .int⟩
      rw [numB, ← hq]
      exact this
    · simp [m33r6]
      have e3 : q / 256 = n / 256 ^ (i + 1) := by rw [hq, Nat.div_div_eq_div_mul, Nat.pow_succ]
      refine ⟨s - (i + 1), by omega, i + 1, rfl, by omega, ?_⟩
      refine ⟨?_, rfl, by rw [wrp_i64 (by omega)]; rfl⟩
      have e4 : ((q / 256 : Nat) : Int) = ((n / 256 ^ (i + 1) : Nat) : Int) := by rw [e3]
      rw [Int.natCast_ediv, Int.natCast_ediv, Int.natCast_pow] at e4
      exact e4
  · have : i = s := by omega
    subst this
    exact fin_of rfl
end Go.Ab.Try.S
