/- Encode, the program's and the reference's: the bytes of a record. Conditions: none. -/
import Derived.Test.YthpmmdlhoaonaaaJ20Put
namespace Go.Ab.Try.S
open Go.Proofs

theorem set_same {H : Heap} {r : Nat} {b : ABlk} (h : H[r]? = some b) : H.set r b = H := by
  have hlt := (List.getElem?_eq_some_iff.1 h).1
  apply List.ext_getElem?
  intro i
  by_cases hk : r = i
  · subst hk; rw [List.getElem?_set_self hlt, h]
  · rw [List.getElem?_set_ne hk]

theorem put_own {H : Heap} {r g size : Nat} {b : List UInt8} {nums : List Nat} (hr : H[r]? = some (.rows g 1 (rowsU8 b))) (hn : ∀ n ∈ nums, n < 4294967296) (hsize : size ≤ 4) (hlen : nums.length ≤ 1000000) (hb : b.length ≤ 1000000000000) :
    Spec Try.prog 32 [.slice r g 0 b.length, .int .i64 size, .islice (rowsU32 nums)] H (.slice r (g + (puts size nums).length) 0 (b.length + (puts size nums).length)) (H.set r (.rows (g + (puts size nums).length) 1 (rowsU8 (b ++ puts size nums)))) := by
  have hlt := (List.getElem?_eq_some_iff.1 hr).1
  have hpl : (puts size nums).length ≤ 4000000 := by
    have : ∀ l : List Nat, (puts size l).length = l.length * size := by
      intro l; induction l with
      | nil => simp [puts]
      | cons a l ih => simp only [puts, List.flatMap_cons, List.length_append, numB_len, List.length_cons] at ih ⊢; rw [ih, Nat.succ_mul]; omega
    rw [this]
    exact Nat.le_trans (Nat.mul_le_mul hlen hsize) (by omega)
  have h := put32 (fun d => (.slice r (g + d.length) 0 (b.length + d.length), H.set r (.rows (g + d.length) 1 (rowsU8 (b ++ d))))) size nums hn hsize (fun d x hd => ?_) (Fin.refl _ _ _) hlen
  · simpa [set_same hr] using h
  · have := append_one (H := H.set r (.rows (g + d.length) 1 (rowsU8 (b ++ d)))) (r := r) (g := g + d.length) (sz := 1) (bytes := 1) (rs := rowsU8 (b ++ d)) (row := [.int .u8 x.toNat]) (x := .islice [[.int .u8 x.toNat]]) (by simp [hlt]) rfl rfl
      (by simp [roomB]; omega)
    simp only [rowsU8_len, List.length_append] at this
    rw [this]
    simp [rowsU8, Nat.add_assoc]

theorem put_nil {size : Nat} {nums : List Nat} (hn : ∀ n ∈ nums, n < 4294967296) (hsize : size ≤ 4) (hlen : nums.length ≤ 1000000) : Spec Try.prog 32 [.nils, .int .i64 size, .islice (rowsU32 nums)] [] (.islice (rowsU8 (puts size nums))) [] := by
  have hpl : (puts size nums).length ≤ 4000000 := by
    have : ∀ l : List Nat, (puts size l).length = l.length * size := by
      intro l; induction l with
      | nil => simp [puts]
      | cons a l ih => simp only [puts, List.flatMap_cons, List.length_append, numB_len, List.length_cons] at ih ⊢; rw [ih, Nat.succ_mul]; omega
    rw [this]
    exact Nat.le_trans (Nat.mul_le_mul hlen hsize) (by omega)
  have h := put32 (fun d => if d = [] then (.nils, []) else (.slice 0 (d.length - 1) 0 d.length, [.rows (d.length - 1) 1 (rowsU8 d)])) size nums hn hsize (fun d x hd => ?_) (v := .islice (rowsU8 (puts size nums))) (H' := []) ?_ hlen
  · simpa using h
  · cases d with
    | nil => simp [appendAV, elems, req, roomB, rowsU8]
    | cons a d =>
      simp only [reduceCtorEq, if_false, List.cons_append]
      have := append_one (H := [.rows ((a :: d).length - 1) 1 (rowsU8 (a :: d))]) (r := 0) (g := (a :: d).length - 1) (sz := 1) (bytes := 1) (rs := rowsU8 (a :: d)) (row := [.int .u8 x.toNat]) (x := .islice [[.int .u8 x.toNat]]) rfl rfl rfl
        (by simp [roomB]; simp at hd; omega)
      rw [rowsU8_len] at this
      rw [this]
      simp [rowsU8]
  · generalize puts size nums = d
    by_cases hd : d = []
    · subst hd; exact fin_drop .nil0
    · simp only [hd, if_false]
      have : Own [.rows (d.length - 1) 1 (rowsU8 d)] 0 1 (.slice 0 (d.length - 1) 0 d.length) (rowsU8 d) := ⟨d.length - 1, 0, d.length, rowsU8 d, rfl, rfl, by simp, by simp [List.take_of_length_le], rowsU8_row d⟩
      exact fin_drop (this.freeze (rowsU8_plain d))

theorem rcheck15 (b : List UInt8) (hb : b.length < 9223372036854775807) : Spec Try.prog 15 [.islice (rowsU8 b)] [] (.int .u32 (crc b)) [] := by
  refine spec_of_wp (C := Spec Try.prog) (fun _ _ _ _ _ h => h) mixed m15_ok (show 1 ≤ 33 by decide) ?_
  unfold m15
  simp [m15r0, m15r1, m15r2, envOf]
  refine vc_loop (fun n σ H => ∃ k c : Nat, n = b.length - k ∧ k ≤ b.length ∧ c < 4294967296 ∧ c = crcFold (b.take k) 4294967295 ∧ H = [] ∧
    σ = [(0, .islice (rowsU8 b)), (3, .int .u32 c), (4, .int .i64 k)]) b.length ⟨0, 4294967295, by simp [crcFold]⟩ ?_
  rintro n σ H ⟨k, c, hn, hk, hc, hcr, rfl, rfl⟩
  simp [m15l13, m15r3, m15r14]
  refine ⟨fun hlt => ?_, fun hge => ?_⟩
  · simp [m15r4]
    refine W_of (iaddr_i (row := [.int .u8 b[k].toNat]) (by omega) (by simp [rowsU8, hlt]) rfl) ?_
    refine W_of (load_iptr (row := [.int .u8 b[k].toNat]) (by simp [rowsU8, hlt]) rfl) ?_
    simp [m15r5, wrpN_u32, toUN_u32]
    have hx := b[k].toNat_lt
    refine vc_loop (fun n σ H => ∃ j c' : Nat, n = 8 - j ∧ j ≤ 8 ∧ c' < 4294967296 ∧ bits (8 - j) c' = crcByte c b[k].toNat ∧ H = [] ∧
      σ = [(0, .islice (rowsU8 b)), (3, .int .u32 c'), (4, .int .i64 k), (5, .int .i64 j)]) 8
      ⟨0, (c ^^^ b[k].toNat), rfl, by omega, xor_lt32 hc (by omega), rfl, rfl, ?_⟩ ?_
    · simp
      have := xor_lt32 hc (b := b[k].toNat) (by omega)
      rw [Nat.mod_eq_of_lt hc]
      omega
    · rintro n σ H ⟨j, c', rfl, hj, hc', hbits, rfl, rfl⟩
      simp [m15l11, m15r6, m15r7, m15r8, m15r9, m15r10, m15r12]
      refine ⟨fun hlt => ?_, fun hge => ?_⟩
      · have hj8 : j < 8 := by omega
        have hb1 : bits (8 - j) c' = bits (8 - (j + 1)) (bit c') := by
          rw [show 8 - j = (8 - (j + 1)) + 1 by omega]
          rfl
        have e1 : ((c' : Int).tmod 2 = 1) ↔ c' % 2 = 1 := by
          have : (c' : Int).tmod 2 = ((c' % 2 : Nat) : Int) := rfl
          rw [this]; omega
        have e2 : (c' : Int) / 2 = ((c' / 2 : Nat) : Int) := by omega
        simp only [e1, e2]
        refine ⟨fun h1 => ?_, fun h1 => ?_⟩
        · refine ⟨8 - (j + 1), by omega, j + 1, rfl, by omega, bit c', bit_lt hc', by rw [← hb1]; exact hbits, ?_, by rw [wrp_i64 (by omega)]; rfl⟩
          have := xor_lt32 (a := c' / 2) (b := 3988292384) (by omega) (by omega)
          have e4 : toU .u32 3988292384 = 3988292384 := rfl
          have e5 : wrp .u32 ((c' / 2 : Nat) : Int) = ((c' / 2 : Nat) : Int) := wrp_u32 (by omega)
          rw [e5, toUN_u32, e4, wrpN_u32, Nat.mod_eq_of_lt (a := c' / 2) (by omega), Nat.mod_eq_of_lt this, bit, if_pos h1]
        · refine ⟨8 - (j + 1), by omega, j + 1, rfl, by omega, bit c', bit_lt hc', by rw [← hb1]; exact hbits, ?_, by rw [wrp_i64 (by omega)]; rfl⟩
          rw [wrpN_u32, Nat.mod_eq_of_lt (by omega), bit, if_neg h1]
      · have hj : j = 8 := by omega
        subst hj
        refine ⟨b.length - (k + 1), by omega, k + 1, rfl, by omega, c', hc', ?_, rfl, by rw [wrp_i64 (by omega)]; rfl⟩
        rw [crcFold_take hlt, ← hcr, ← hbits]
        rfl
  · have : k = b.length := by omega
    subst this
    rw [List.take_length] at hcr
    refine fin_of ?_
    have e4 : toU .u32 4294967295 = 4294967295 := rfl
    have := xor_lt32 hc (b := 4294967295) (by omega)
    rw [toUN_u32, e4, wrpN_u32, Nat.mod_eq_of_lt hc, Nat.mod_eq_of_lt this, crc, ← hcr]
end Go.Ab.Try.S
