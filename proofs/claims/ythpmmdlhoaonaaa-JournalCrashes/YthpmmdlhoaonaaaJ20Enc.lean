/- Numbers appended as bytes: journal.put. Conditions: none. -/
import Derived.Test.YthpmmdlhoaonaaaJ20Num
import Derived.Test.YthpmmdlhoaonaaaAbAcc
namespace Go.Ab.Try.S
open Go.Proofs

def rowsU32 (l : List Nat) : List Row := l.map fun (n : Nat) => [AV.int .u32 (n : Int)]
def puts (size : Nat) (l : List Nat) : List UInt8 := l.flatMap fun n => numB n size

theorem numB_split (n : Nat) : ∀ (s i : Nat), i ≤ s → ∃ d, numB n s = d ++ numB n i ∧ d.length = s - i
  | 0, i, h => by
    have : i = 0 := by omega
    subst this
    exact ⟨[], rfl, rfl⟩
  | s + 1, i, h => by
    by_cases e : i = s + 1
    · subst e; exact ⟨[], by simp, by simp⟩
    · obtain ⟨d, h1, h2⟩ := numB_split n s i (by omega)
      exact ⟨UInt8.ofNat (n / 256 ^ s % 256) :: d, by simp [numB, h1], by simp; omega⟩

theorem shr_byte (n j : Nat) : (n : Int) / 2 ^ (8 * j) = ((n / 256 ^ j : Nat) : Int) := by
  have h : ((2 : Int) ^ (8 * j)) = ((256 ^ j : Nat) : Int) := by
    have : ((2 : Int) ^ (8 * j)) = ((2 ^ (8 * j) : Nat) : Int) := by simp
    rw [this, Nat.pow_mul]
  rw [h, Int.natCast_ediv]

/-- put, whatever the slice is that it appends to: st d is that slice, and the heap, when the bytes d have come. -/
theorem put32 (st : List UInt8 → AV × Heap) (size : Nat) (nums : List Nat) (hn : ∀ n ∈ nums, n < 4294967296) (hsize : size ≤ 4)
    (hst : ∀ d x, d.length < (puts size nums).length → appendAV (st d).2 1 1 (st d).1 (.islice [[.int .u8 (x : UInt8).toNat]]) = some (st (d ++ [x]))) {v : AV} {H' : Heap} (hv : Fin (st []).2 (st (puts size nums)).1 (st (puts size nums)).2 v H')
    (hlen : nums.length ≤ 1000000) : Spec Try.prog 32 [(st []).1, .int .i64 size, .islice (rowsU32 nums)] (st []).2 v H' := by
  refine spec_of_wp (C := Spec Try.prog) (fun _ _ _ _ _ h => h) mixed m32_ok (show 3 ≤ 32 by decide) ?_
  unfold m32
  simp [m32r0, m32r1, envOf]
  refine vc_loop (fun m σ H1 => ∃ (k : Nat), m = nums.length - k ∧ k ≤ nums.length ∧ H1 = (st (puts size (nums.take k))).2 ∧
    σ = [(0, (st (puts size (nums.take k))).1), (1, .int .i64 size), (10, .islice (rowsU32 nums)), (11, .int .i64 (nums.length : Int)), (12, .int .i64 k)]) nums.length
    ⟨0, rfl, by omega, rfl, by simp [puts, rowsU32]⟩ ?_
  rintro m σ H1 ⟨k, rfl, hk, rfl, rfl⟩
  simp [m32l10, m32r2, m32r11]
  refine ⟨fun hlt => ?_, fun hge => ?_⟩
  · have hrow : (rowsU32 nums)[k]? = some [.int .u32 (nums[k] : Nat)] := by simp [rowsU32, hlt]
    have hpre : (puts size (nums.take (k + 1))) = puts size (nums.take k) ++ numB nums[k] size := by
      rw [List.take_succ_eq_append_getElem hlt]; unfold puts; rw [List.flatMap_append]; simp
    have hle : (puts size (nums.take (k + 1))).length ≤ (puts size nums).length := by
      have : puts size nums = puts size (nums.take (k + 1)) ++ puts size (nums.drop (k + 1)) := by
        rw [puts, puts, puts, ← List.flatMap_append, List.take_append_drop]
      rw [this, List.length_append]; omega
    have hnk : nums[k] < 4294967296 := hn _ (List.getElem_mem hlt)
    generalize hd : puts size (nums.take k) = d at *
    generalize nums[k] = n at *
    simp [m32r3]
    refine W_of (iaddr_i (row := [.int .u32 (n : Int)]) (by omega) (by simpa using hrow) rfl) ?_
    refine W_of (load_iptr (row := [.int .u32 (n : Int)]) (by simpa using hrow) rfl) ?_
    simp [m32r4]
    rw [wrp_i64 (by omega)]
    refine vc_loop (fun m σ H1 => ∃ (i : Nat) (f : List UInt8), m = i ∧ i ≤ size ∧ d ++ numB n size = f ++ numB n i ∧ H1 = (st f).2 ∧
      σ = [(0, (st f).1), (1, .int .i64 size), (8, .int .u32 n), (9, .int .i64 ((i : Int) - 1)), (10, .islice (rowsU32 nums)), (11, .int .i64 (nums.length : Int)), (12, .int .i64 k)]) size
      ⟨size, d, rfl, Nat.le_refl _, rfl, rfl, by simp⟩ ?_
    rintro i σ H1 ⟨_, f, rfl, hi, hf, rfl, rfl⟩
    simp [m32l8, m32r5, m32r9]
    refine ⟨fun hlt2 => ?_, fun hge2 => ?_⟩
    · obtain ⟨j, rfl⟩ : ∃ j, i = j + 1 := ⟨i - 1, by omega⟩
      simp [m32r6]
      rw [wrp_i64 (by omega)]
      have e1 : (8 * (j : Int)).toNat = 8 * j := by omega
      have e0 : min (8 * j) (bitsOf .u32) = 8 * j := by simp [bitsOf]; omega
      rw [e1, e0]
      have hw : (n : Int) / 2 ^ (8 * j) % 256 = ((UInt8.ofNat (n / 256 ^ j % 256)).toNat : Int) := by rw [shr_byte]; simp
      refine ⟨by omega, ?_⟩
      simp only [wrp]
      rw [hw]
      have hl : f.length < (puts size nums).length := by
        have := congrArg List.length hf
        rw [hpre] at hle
        simp [numB_len] at this hle
        omega
      refine W_of (hst f _ hl) ?_
      simp [m32r7]
      refine ⟨j, by omega, by omega, f ++ [UInt8.ofNat (n / 256 ^ j % 256)], by rw [hf]; simp [numB], rfl, rfl, ?_⟩
      rw [wrp_i64 (by omega)]
    · have : i = 0 := by omega
      subst this
      simp [numB] at hf
      subst hf
      rw [wrp_i64 (by omega)]
      refine ⟨nums.length - (k + 1), by omega, k + 1, rfl, hlt, by rw [hpre], by rw [hpre], by omega⟩
  · have : k = nums.length := by omega
    subst this
    rw [List.take_length]
    exact hv
end Go.Ab.Try.S

/- Encode, the program's and the reference's: the bytes of a record. Conditions: none. -/
namespace Go.Ab.Try.S
open Go.Proofs

theorem set_same {H : Heap} {r : Nat} {b : ABlk} (h : H[r]? = some b) : H.set r b = H := by
  have hlt := (List.getElem?_eq_some_iff.1 h).1
  apply List.ext_getElem?
  intro i
  by_cases hk : r = i
  · subst hk; rw [List.getElem?_set_self hlt, h]
  · rw [List.getElem?_set_ne hk]

theorem put_own {H : Heap} {r g size : Nat} {b : List UInt8} {nums : List Nat} (hr : H[r]? = some (.rows g 1 (rowsU8 b))) (hn : ∀ n ∈ nums, n < 4294967296) (hsize : size ≤ 4) (hlen : nums.length ≤ 1000000) (hb : b.length ≤ 1000000000000) :
    Spec Try.prog 32 [.slice r g 0 b.length, .int .i64 size, .islice (rowsU32 nums)] H (.slice r (g + (puts size nums).length) 0 (b.length + (puts size nums).length)) (H.set r (.rows (g + (puts size nums).length) 1 (rowsU8 (b ++ puts size nums)))) := by
  have hlt := (List.getElem?_eq_some_iff.1 hr).1
  have hpl : (puts size nums).length ≤ 4000000 := by
    have : ∀ l : List Nat, (puts size l).length = l.length * size := by
      intro l; induction l with
      | nil => simp [puts]
      | cons a l ih => simp only [puts, List.flatMap_cons, List.length_append, numB_len, List.length_cons] at ih ⊢; rw [ih, Nat.succ_mul]; omega
    rw [this]
    exact Nat.le_trans (Nat.mul_le_mul hlen hsize) (by omega)
  have h := put32 (fun d => (.slice r (g + d.length) 0 (b.length + d.length), H.set r (.rows (g + d.length) 1 (rowsU8 (b ++ d))))) size nums hn hsize (fun d x hd => ?_) (Fin.refl _ _ _) hlen
  · simpa [set_same hr] using h
  · have := append_one (H := H.set r (.rows (g + d.length) 1 (rowsU8 (b ++ d)))) (r := r) (g := g + d.length) (sz := 1) (bytes := 1) (rs := rowsU8 (b ++ d)) (row := [.int .u8 x.toNat]) (x := .islice [[.int .u8 x.toNat]]) (by simp [hlt]) rfl rfl
      (by simp [roomB]; omega)
    simp only [rowsU8_len, List.length_append] at this
    rw [this]
    simp [rowsU8, Nat.add_assoc]

theorem put_nil {size : Nat} {nums : List Nat} (hn : ∀ n ∈ nums, n < 4294967296) (hsize : size ≤ 4) (hlen : nums.length ≤ 1000000) : Spec Try.prog 32 [.nils, .int .i64 size, .islice (rowsU32 nums)] [] (.islice (rowsU8 (puts size nums))) [] := by
  have hpl : (puts size nums).length ≤ 4000000 := by
    have : ∀ l : List Nat, (puts size l).length = l.length * size := by
      intro l; induction l with
      | nil => simp [puts]
      | cons a l ih => simp only [puts, List.flatMap_cons, List.length_append, numB_len, List.length_cons] at ih ⊢; rw [ih, Nat.succ_mul]; omega
    rw [this]
    exact Nat.le_trans (Nat.mul_le_mul hlen hsize) (by omega)
  have h := put32 (fun d => if d = [] then (.nils, []) else (.slice 0 (d.length - 1) 0 d.length, [.rows (d.length - 1) 1 (rowsU8 d)])) size nums hn hsize (fun d x hd => ?_) (v := .islice (rowsU8 (puts size nums))) (H' := []) ?_ hlen
  · simpa using h
  · cases d with
    | nil => simp [appendAV, elems, req, roomB, rowsU8]
    | cons a d =>
      simp only [reduceCtorEq, if_false, List.cons_append]
      have := append_one (H := [.rows ((a :: d).length - 1) 1 (rowsU8 (a :: d))]) (r := 0) (g := (a :: d).length - 1) (sz := 1) (bytes := 1) (rs := rowsU8 (a :: d)) (row := [.int .u8 x.toNat]) (x := .islice [[.int .u8 x.toNat]]) rfl rfl rfl
        (by simp [roomB]; simp at hd; omega)
      rw [rowsU8_len] at this
      rw [this]
      simp [rowsU8]
  · generalize puts size nums = d
    by_cases hd : d = []
    · subst hd; exact fin_drop .nil0
    · simp only [hd, if_false]
      have : Own [.rows (d.length - 1) 1 (rowsU8 d)] 0 1 (.slice 0 (d.length - 1) 0 d.length) (rowsU8 d) := ⟨d.length - 1, 0, d.length, rowsU8 d, rfl, rfl, by simp, by simp [List.take_of_length_le], rowsU8_row d⟩
      exact fin_drop (this.freeze (rowsU8_plain d))

theorem rcheck15 (b : List UInt8) (hb : b.length < 9223372036854775807) : Spec Try.prog 15 [.islice (rowsU8 b)] [] (.int .u32 (crc b)) [] := by
  refine spec_of_wp (C := Spec Try.prog) (fun _ _ _ _ _ h => h) mixed m15_ok (show 1 ≤ 33 by decide) ?_
  unfold m15
  simp [m15r0, m15r1, m15r2, envOf]
  refine vc_loop (fun n σ H => ∃ k c : Nat, n = b.length - k ∧ k ≤ b.length ∧ c < 4294967296 ∧ c = crcFold (b.take k) 4294967295 ∧ H = [] ∧
    σ = [(0, .islice (rowsU8 b)), (3, .int .u32 c), (4, .int .i64 k)]) b.length ⟨0, 4294967295, by simp [crcFold]⟩ ?_
  rintro n σ H ⟨k, c, hn, hk, hc, hcr, rfl, rfl⟩
  simp [m15l13, m15r3, m15r14]
  refine ⟨fun hlt => ?_, fun hge => ?_⟩
  · simp [m15r4]
    refine W_of (iaddr_i (row := [.int .u8 b[k].toNat]) (by omega) (by simp [rowsU8, hlt]) rfl) ?_
    refine W_of (load_iptr (row := [.int .u8 b[k].toNat]) (by simp [rowsU8, hlt]) rfl) ?_
    simp [m15r5, wrpN_u32, toUN_u32]
    have hx := b[k].toNat_lt
    refine vc_loop (fun n σ H => ∃ j c' : Nat, n = 8 - j ∧ j ≤ 8 ∧ c' < 4294967296 ∧ bits (8 - j) c' = crcByte c b[k].toNat ∧ H = [] ∧
      σ = [(0, .islice (rowsU8 b)), (3, .int .u32 c'), (4, .int .i64 k), (5, .int .i64 j)]) 8
      ⟨0, (c ^^^ b[k].toNat), rfl, by omega, xor_lt32 hc (by omega), rfl, rfl, ?_⟩ ?_
    · simp
      have := xor_lt32 hc (b := b[k].toNat) (by omega)
      rw [Nat.mod_eq_of_lt hc]
      omega
    · rintro n σ H ⟨j, c', rfl, hj, hc', hbits, rfl, rfl⟩
      simp [m15l11, m15r6, m15r7, m15r8, m15r9, m15r10, m15r12]
      refine ⟨fun hlt => ?_, fun hge => ?_⟩
      · have hj8 : j < 8 := by omega
        have hb1 : bits (8 - j) c' = bits (8 - (j + 1)) (bit c') := by
          rw [show 8 - j = (8 - (j + 1)) + 1 by omega]
          rfl
        have e1 : ((c' : Int).tmod 2 = 1) ↔ c' % 2 = 1 := by
          have : (c' : Int).tmod 2 = ((c' % 2 : Nat) : Int) := rfl
          rw [this]; omega
        have e2 : (c' : Int) / 2 = ((c' / 2 : Nat) : Int) := by omega
        simp only [e1, e2]
        refine ⟨fun h1 => ?_, fun h1 => ?_⟩
        · refine ⟨8 - (j + 1), by omega, j + 1, rfl, by omega, bit c', bit_lt hc', by rw [← hb1]; exact hbits, ?_, by rw [wrp_i64 (by omega)]; rfl⟩
          have := xor_lt32 (a := c' / 2) (b := 3988292384) (by omega) (by omega)
          have e4 : toU .u32 3988292384 = 3988292384 := rfl
          have e5 : wrp .u32 ((c' / 2 : Nat) : Int) = ((c' / 2 : Nat) : Int) := wrp_u32 (by omega)
          rw [e5, toUN_u32, e4, wrpN_u32, Nat.mod_eq_of_lt (a := c' / 2) (by omega), Nat.mod_eq_of_lt this, bit, if_pos h1]
        · refine ⟨8 - (j + 1), by omega, j + 1, rfl, by omega, bit c', bit_lt hc', by rw [← hb1]; exact hbits, ?_, by rw [wrp_i64 (by omega)]; rfl⟩
          rw [wrpN_u32, Nat.mod_eq_of_lt (by omega), bit, if_neg h1]
      · have hj : j = 8 := by omega
        subst hj
        refine ⟨b.length - (k + 1), by omega, k + 1, rfl, by omega, c', hc', ?_, rfl, by rw [wrp_i64 (by omega)]; rfl⟩
        rw [crcFold_take hlt, ← hcr, ← hbits]
        rfl
  · have : k = b.length := by omega
    subst this
    rw [List.take_length] at hcr
    refine fin_of ?_
    have e4 : toU .u32 4294967295 = 4294967295 := rfl
    have := xor_lt32 hc (b := 4294967295) (by omega)
    rw [toUN_u32, e4, wrpN_u32, Nat.mod_eq_of_lt hc, Nat.mod_eq_of_lt this, crc, ← hcr]
end Go.Ab.Try.S
