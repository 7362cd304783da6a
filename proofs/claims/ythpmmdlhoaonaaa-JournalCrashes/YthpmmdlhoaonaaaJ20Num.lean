/- Check. -/
import Derived.Test.YthpmmdlhoaonaaaJ20FnS
import Derived.Test.YthpmmdlhoaonaaaAbOwn
namespace Go.Ab.Try.S
open Go.Proofs

theorem mixed : Try.prog.follows .mixedOrders = true := by kernel_rfl



def bit (c : Nat) : Nat := if c % 2 = 1 then (c / 2) ^^^ 3988292384 else c / 2
def bits : Nat → Nat → Nat
  | 0, c => c
  | n + 1, c => bits n (bit c)
def crcByte (c x : Nat) : Nat := bits 8 (c ^^^ x)
def crcFold (b : List UInt8) (c : Nat) : Nat := b.foldl (fun c x => crcByte c x.toNat) c
def crc (b : List UInt8) : Nat := crcFold b 4294967295 ^^^ 4294967295

theorem crcFold_take {b : List UInt8} {k c : Nat} (h : k < b.length) : crcFold (b.take (k + 1)) c = crcByte (crcFold (b.take k) c) b[k].toNat := by
  unfold crcFold
  rw [List.take_succ_eq_append_getElem h, List.foldl_append]
  rfl

theorem xor_lt32 {a b : Nat} (ha : a < 4294967296) (hb : b < 4294967296) : a ^^^ b < 4294967296 := Nat.xor_lt_two_pow (n := 32) ha hb

theorem bit_lt {c : Nat} (h : c < 4294967296) : bit c < 4294967296 := by
  unfold bit
  split
  · exact xor_lt32 (by omega) (by omega)
  · omega

theorem check14 (b : List UInt8) (hb : b.length < 9223372036854775807) : Spec Try.prog 14 [.islice (rowsU8 b)] [] (.int .u32 (crc b)) [] := by
  refine spec_of_wp (C := Spec Try.prog) (fun _ _ _ _ _ h => h) mixed m14_ok (show 1 ≤ 31 by decide) ?_
  unfold m14
  simp [m14r0, m14r1, m14r2, envOf]
  refine vc_loop (fun n σ H => ∃ k c : Nat, n = b.length - k ∧ k ≤ b.length ∧ c < 4294967296 ∧ c = crcFold (b.take k) 4294967295 ∧ H = [] ∧
    σ = [(3, .int .u32 c), (7, .islice (rowsU8 b)), (8, .int .i64 (b.length : Int)), (9, .int .i64 k)]) b.length ⟨0, 4294967295, by simp [rowsU8, crcFold]⟩ ?_
  rintro n σ H ⟨k, c, hn, hk, hc, hcr, rfl, rfl⟩
  simp [m14l15, m14r3, m14r4, m14r16]
  refine ⟨fun hlt => ?_, fun hge => ?_⟩
  · refine W_of (iaddr_i (row := [.int .u8 b[k].toNat]) (by omega) (by simp [rowsU8, hlt]) rfl) ?_
    refine W_of (load_iptr (row := [.int .u8 b[k].toNat]) (by simp [rowsU8, hlt]) rfl) ?_
    simp [m14r5, m14r6, wrpN_u32, toUN_u32]
    have hx := b[k].toNat_lt
    refine vc_loop (fun n σ H => ∃ j c' : Nat, n = 8 - j ∧ j ≤ 8 ∧ c' < 4294967296 ∧ bits (8 - j) c' = crcByte c b[k].toNat ∧ H = [] ∧
      σ = [(3, .int .u32 c'), (7, .islice (rowsU8 b)), (8, .int .i64 (b.length : Int)), (9, .int .i64 k), (17, .int .i64 j)]) 8
      ⟨0, (c ^^^ b[k].toNat), rfl, by omega, xor_lt32 hc (by omega), rfl, rfl, ?_⟩ ?_
    · simp
      have := xor_lt32 hc (b := b[k].toNat) (by omega)
      rw [Nat.mod_eq_of_lt hc]
      omega
    · rintro n σ H ⟨j, c', rfl, hj, hc', hbits, rfl, rfl⟩
      simp [m14l13, m14r7, m14r8, m14r9, m14r10, m14r14, wrpN_u32, toUN_u32]
      refine ⟨fun hlt => ?_, fun hge => ?_⟩
      · have e1 : ∀ m : Nat, ((c' % 4294967296 &&& toU .u32 1 : Nat) : Int) % 4294967296 = 1 ↔ c' % 2 = 1 := by
          intro _
          have : toU .u32 1 = 1 := rfl
          rw [this, Nat.and_one_is_mod]
          omega
        have e2 : ((c' : Int) / 2 ^ min 1 (bitsOf .u32)) = ((c' / 2 : Nat) : Int) := by
          have : min 1 (bitsOf .u32) = 1 := rfl
          rw [this]
          omega
        have hj8 : j < 8 := by omega
        have hb1 : bits (8 - j) c' = bits (8 - (j + 1)) (bit c') := by
          rw [show 8 - j = (8 - (j + 1)) + 1 by omega]
          rfl
        simp only [e1 0, e2]
        refine ⟨fun h1 => ?_, fun h1 => ?_⟩
        · simp [m14r11, m14r12]
          refine ⟨8 - (j + 1), by omega, j + 1, rfl, by omega, bit c', bit_lt hc', by rw [← hb1]; exact hbits, ?_, ?_⟩
          · have e3 : toU .u32 ((c' : Int) / 2) = c' / 2 := by simp only [toU]; omega
            have e4 : toU .u32 3988292384 = 3988292384 := rfl
            have := xor_lt32 (a := c' / 2) (b := 3988292384) (by omega) (by omega)
            rw [e3, e4, wrpN_u32, Nat.mod_eq_of_lt this, bit, if_pos h1]
          · rw [wrp_i64 (by omega)]
            rfl
        · simp [m14r12]
          refine ⟨8 - (j + 1), by omega, j + 1, rfl, by omega, bit c', bit_lt hc', by rw [← hb1]; exact hbits, ?_, ?_⟩
          · simp [bit, h1]
          · rw [wrp_i64 (by omega)]
            rfl
      · have hj : j = 8 := by omega
        subst hj
        have hk' : k + 1 ≤ b.length := hlt
        refine ⟨b.length - (k + 1), by omega, k + 1, rfl, hk', c', hc', ?_, rfl, by rw [wrp_i64 (by omega)]; rfl⟩
        rw [crcFold_take hlt, ← hcr, ← hbits]
        rfl
  · have : k = b.length := by omega
    subst this
    rw [List.take_length] at hcr
    refine fin_of ?_
    simp [toUN_u32, mask, wrpN_u32, crc, ← hcr]
    have := xor_lt32 hc (b := 4294967295) (by omega)
    rw [Nat.mod_eq_of_lt hc]
    omega
end Go.Ab.Try.S

/- The numbers of the journal as bytes: dialtoneref20.number. Conditions: none. -/
namespace Go.Ab.Try.S
open Go.Proofs

def numB (n : Nat) : Nat → List UInt8
  | 0 => []
  | i + 1 => UInt8.ofNat (n / 256 ^ i % 256) :: numB n i

theorem numB_len (n : Nat) : ∀ i, (numB n i).length = i
  | 0 => rfl
  | i + 1 => by simp [numB, numB_len n i]

theorem number33 (n s : Nat) (hn : n < 9223372036854775808) (hs : s ≤ 100) : Spec Try.prog 33 [.int .i64 n, .int .i64 s] [] (.islice (rowsU8 (numB n s))) [] := by
  refine spec_of_wp (C := Spec Try.prog) (fun _ _ _ _ _ h => h) mixed m33_ok (show 2 ≤ 21 by decide) ?_
  unfold m33
  simp [m33r0, m33r1, m33r2, envOf]
  refine vc_conv (σ' := [(0, .int .i64 n), (1, .int .i64 s), (5, .islice [])]) (conv_drop ?_) ?_
  · simp
    exact ⟨.refl .int, .refl .int, .nil0⟩
  simp
  refine vc_loop (fun m σ H => ∃ i q : Nat, m = s - i ∧ i ≤ s ∧ q = n / 256 ^ i ∧ H = [] ∧ σ = [(0, .int .i64 q), (1, .int .i64 s), (5, .islice (rowsU8 (numB n i))), (6, .int .i64 i)]) s ⟨0, n, by simp [numB, rowsU8]⟩ ?_
  rintro m σ H ⟨i, q, rfl, hi, hq, rfl, rfl⟩
  simp [m33l7, m33r3, m33r4, m33r8]
  refine ⟨fun hlt => ?_, fun hge => ?_⟩
  · have hqn : q < 9223372036854775808 := by
      have := Nat.div_le_self n (256 ^ i)
      omega
    have hw : wrp .u8 ((q : Int).tmod 256) = ((UInt8.ofNat (q % 256)).toNat : Int) := by
      have e : ((q : Int).tmod 256) = ((q % 256 : Nat) : Int) := rfl
      rw [e, wrpN_u8]
      simp
    rw [hw]
    obtain ⟨c', b, h1, h2⟩ := Own.append (bytes := 1) (own_new (H := []) (sz := 1) (rs := [[.int .u8 ((UInt8.ofNat (q % 256)).toNat : Int)]]) (by simp)) (x := .islice (rowsU8 (numB n i))) rfl (rowsU8_row _) (by simp [numB_len, roomB]; omega)
    refine W_of h1 ?_
    have e2 : ((q : Int).tdiv 256) = ((q / 256 : Nat) : Int) := rfl
    simp [m33r5, e2]
    rw [wrp_i64 (by omega)]
    refine vc_conv (σ' := [(0, .int .i64 (q / 256 : Nat)), (1, .int .i64 s), (5, .islice (rowsU8 (numB n (i + 1)))), (6, .int .i64 i)]) (conv_drop ?_) ?_
    · have := h2.freeze (rowsU8_plain (UInt8.ofNat (q % 256) :: numB n i))
      simp
      refine ⟨.refl .int, .refl .int, ?_, .refl .int⟩
      rw [numB, ← hq]
      exact this
    · simp [m33r6]
      have e3 : q / 256 = n / 256 ^ (i + 1) := by rw [hq, Nat.div_div_eq_div_mul, Nat.pow_succ]
      refine ⟨s - (i + 1), by omega, i + 1, rfl, by omega, ?_⟩
      refine ⟨?_, rfl, by rw [wrp_i64 (by omega)]; rfl⟩
      have e4 : ((q / 256 : Nat) : Int) = ((n / 256 ^ (i + 1) : Nat) : Int) := by rw [e3]
      rw [Int.natCast_ediv, Int.natCast_ediv, Int.natCast_pow] at e4
      exact e4
  · have : i = s := by omega
    subst this
    exact fin_of rfl
end Go.Ab.Try.S
