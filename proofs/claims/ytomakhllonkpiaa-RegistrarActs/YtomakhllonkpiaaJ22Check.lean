/- Check. -/
import Derived.Test.YtomakhllonkpiaaJ22FnS
import Derived.Test.YtomakhllonkpiaaAbAcc
namespace Go.Ab.Try.S
open Go.Proofs

theorem mixed : Try.prog.follows .mixedOrders = true := by kernel_rfl



def bit (c : Nat) : Nat := if c % 2 = 1 then (c / 2) ^^^ 3988292384 else c / 2
def bits : Nat → Nat → Nat
  | 0, c => c
  | n + 1, c => bits n (bit c)
def crcByte (c x : Nat) : Nat := bits 8 (c ^^^ x)
def crcFold (b : List UInt8) (c : Nat) : Nat := b.foldl (fun c x => crcByte c x.toNat) c
def crc (b : List UInt8) : Nat := crcFold b 4294967295 ^^^ 4294967295

theorem crcFold_take {b : List UInt8} {k c : Nat} (h : k < b.length) : crcFold (b.take (k + 1)) c = crcByte (crcFold (b.take k) c) b[k].toNat := by
  unfold crcFold
  rw [List.take_succ_eq_append_getElem h, List.foldl_append]
  rfl

theorem xor_lt32 {a b : Nat} (ha : a < 4294967296) (hb : b < 4294967296) : a ^^^ b < 4294967296 := Nat.xor_lt_two_pow (n := 32) ha hb

theorem bit_lt {c : Nat} (h : c < 4294967296) : bit c < 4294967296 := by
  unfold bit
  split
  · exact xor_lt32 (by omega) (by omega)
  · omega

theorem check68 (b : List UInt8) (hb : b.length < 9223372036854775807) : Spec Try.prog 68 [.islice (rowsU8 b)] [] (.int .u32 (crc b)) [] := by
  refine spec_of_wp (C := Spec Try.prog) (fun _ _ _ _ _ h => h) mixed m68_ok (show 1 ≤ 31 by decide) ?_
  unfold m68
  simp [m68r0, m68r1, m68r2, envOf]
  refine vc_loop (fun n σ H => ∃ k c : Nat, n = b.length - k ∧ k ≤ b.length ∧ c < 4294967296 ∧ c = crcFold (b.take k) 4294967295 ∧ H = [] ∧
    σ = [(3, .int .u32 c), (7, .islice (rowsU8 b)), (8, .int .i64 (b.length : Int)), (9, .int .i64 k)]) b.length ⟨0, 4294967295, by simp [rowsU8, crcFold]⟩ ?_
  rintro n σ H ⟨k, c, hn, hk, hc, hcr, rfl, rfl⟩
  simp [m68l15, m68r3, m68r4, m68r16]
  refine ⟨fun hlt => ?_, fun hge => ?_⟩
  · refine W_of (iaddr_i (row := [.int .u8 b[k].toNat]) (by omega) (by simp [rowsU8, hlt]) rfl) ?_
    refine W_of (load_iptr (row := [.int .u8 b[k].toNat]) (by simp [rowsU8, hlt]) rfl) ?_
    simp [m68r5, m68r6, wrpN_u32, toUN_u32]
    have hx := b[k].toNat_lt
    refine vc_loop (fun n σ H => ∃ j c' : Nat, n = 8 - j ∧ j ≤ 8 ∧ c' < 4294967296 ∧ bits (8 - j) c' = crcByte c b[k].toNat ∧ H = [] ∧
      σ = [(3, .int .u32 c'), (7, .islice (rowsU8 b)), (8, .int .i64 (b.length : Int)), (9, .int .i64 k), (17, .int .i64 j)]) 8
      ⟨0, (c ^^^ b[k].toNat), rfl, by omega, xor_lt32 hc (by omega), rfl, rfl, ?_⟩ ?_
    · simp
      have := xor_lt32 hc (b := b[k].toNat) (by omega)
      rw [Nat.mod_eq_of_lt hc]
      omega
    · rintro n σ H ⟨j, c', rfl, hj, hc', hbits, rfl, rfl⟩
      simp [m68l13, m68r7, m68r8, m68r9, m68r10, m68r14, wrpN_u32, toUN_u32]
      refine ⟨fun hlt => ?_, fun hge => ?_⟩
      · have e1 : ∀ m : Nat, ((c' % 4294967296 &&& toU .u32 1 : Nat) : Int) % 4294967296 = 1 ↔ c' % 2 = 1 := by
          intro _
          have : toU .u32 1 = 1 := rfl
          rw [this, Nat.and_one_is_mod]
          omega
        have e2 : ((c' : Int) / 2 ^ min 1 (bitsOf .u32)) = ((c' / 2 : Nat) : Int) := by
          have : min 1 (bitsOf .u32) = 1 := rfl
          rw [this]
          omega
        have hj8 : j < 8 := by omega
        have hb1 : bits (8 - j) c' = bits (8 - (j + 1)) (bit c') := by
          rw [show 8 - j = (8 - (j + 1)) + 1 by omega]
          rfl
        simp only [e1 0, e2]
        refine ⟨fun h1 => ?_, fun h1 => ?_⟩
        · simp [m68r11, m68r12]
          refine ⟨8 - (j + 1), by omega, j + 1, rfl, by omega, bit c', bit_lt hc', by rw [← hb1]; exact hbits, ?_, ?_⟩
          · have e3 : toU .u32 ((c' : Int) / 2) = c' / 2 := by simp only [toU]; omega
            have e4 : toU .u32 3988292384 = 3988292384 := rfl
            have := xor_lt32 (a := c' / 2) (b := 3988292384) (by omega) (by omega)
            rw [e3, e4, wrpN_u32, Nat.mod_eq_of_lt this, bit, if_pos h1]
          · rw [wrp_i64 (by omega)]
            rfl
        · simp [m68r12]
          refine ⟨8 - (j + 1), by omega, j + 1, rfl, by omega, bit c', bit_lt hc', by rw [← hb1]; exact hbits, ?_, ?_⟩
          · simp [bit, h1]
          · rw [wrp_i64 (by omega)]
            rfl
      · have hj : j = 8 := by omega
        subst hj
        have hk' : k + 1 ≤ b.length := hlt
        refine ⟨b.length - (k + 1), by omega, k + 1, rfl, hk', c', hc', ?_, rfl, by rw [wrp_i64 (by omega)]; rfl⟩
        rw [crcFold_take hlt, ← hcr, ← hbits]
        rfl
  · have : k = b.length := by omega
    subst this
    rw [List.take_length] at hcr
    refine fin_of ?_
    simp [toUN_u32, mask, wrpN_u32, crc, ← hcr]
    have := xor_lt32 hc (b := 4294967295) (by omega)
    rw [Nat.mod_eq_of_lt hc]
    omega
end Go.Ab.Try.S
