/- Numbers appended as bytes: journal.put. Conditions: none. -/
import Derived.Test.YthpmmdlhoaonaaaJ20Num
import Derived.Test.YthpmmdlhoaonaaaAbAcc
namespace Go.Ab.Try.S
open Go.Proofs

def rowsU32 (l : List Nat) : List Row := l.map fun (n : Nat) => [AV.int .u32 (n : Int)]
def puts (size : Nat) (l : List Nat) : List UInt8 := l.flatMap fun n => numB n size

theorem numB_split (n : Nat) : ∀ (s i : Nat), i ≤ s → ∃ d, numB n s = d ++ numB n i ∧ d.length = s - i
  | 0, i, h => by
    have : i = 0 := by omega
    subst this
    exact ⟨[], rfl, rfl⟩
  | s + 1, i, h => by
    by_cases e : i = s + 1
    · subst e; exact ⟨[], by simp, by simp⟩
    · obtain ⟨d, h1, h2⟩ := numB_split n s i (by omega)
      exact ⟨UInt8.ofNat (n / 256 ^ s % 256) :: d, by simp [numB, h1], by simp; omega⟩

theorem shr_byte (n j : Nat) : (n : Int) / 2 ^ (8 * j) = ((n / 256 ^ j : Nat) : Int) := by
  have h : ((2 : Int) ^ (8 * j)) = ((256 ^ j : Nat) : Int) := by
    have : ((2 : Int) ^ (8 * j)) = ((2 ^ (8 * j) : Nat) : Int) := by simp
    rw [this, Nat.pow_mul]
  rw [h, Int.natCast_ediv]

/-- put, whatever the slice is that it appends to: st d is that slice, and the heap, when the bytes d have come. -/
theorem put32 (st : List UInt8 → AV × Heap) (size : Nat) (nums : List Nat) (hn : ∀ n ∈ nums, n < 4294967296) (hsize : size ≤ 4)
    (hst : ∀ d x, d.length < (puts size nums).length → appendAV (st d).2 1 1 (st d).1 (.islice [[.int .u8 (x : UInt8).toNat]]) = some (st (d ++ [x]))) {v : AV} {H' : Heap} (hv : Fin (st []).2 (st (puts size nums)).1 (st (puts size nums)).2 v H')
    (hlen : nums.length ≤ 1000000) : Spec Try.prog 32 [(st []).1, .int .i64 size, .islice (rowsU32 nums)] (st []).2 v H' := by
  refine spec_of_wp (C := Spec Try.prog) (fun _ _ _ _ _ h => h) mixed m32_ok (show 3 ≤ 32 by decide) ?_
  unfold m32
  simp [m32r0, m32r1, envOf]
  refine vc_loop (fun m σ H1 => ∃ (k : Nat), m = nums.length - k ∧ k ≤ nums.length ∧ H1 = (st (puts size (nums.take k))).2 ∧
    σ = [(0, (st (puts size (nums.take k))).1), (1, .int .i64 size), (10, .islice (rowsU32 nums)), (11, .int .i64 (nums.length : Int)), (12, .int .i64 k)]) nums.length
    ⟨0, rfl, by omega, rfl, by simp [puts, rowsU32]⟩ ?_
  rintro m σ H1 ⟨k, rfl, hk, rfl, rfl⟩
  simp [m32l10, m32r2, m32r11]
  refine ⟨fun hlt => ?_, fun hge => ?_⟩
  · have hrow : (rowsU32 nums)[k]? = some [.int .u32 (nums[k] : Nat)] := by simp [rowsU32, hlt]
    have hpre : (puts size (nums.take (k + 1))) = puts size (nums.take k) ++ numB nums[k] size := by
      rw [List.take_succ_eq_append_getElem hlt]; unfold puts; rw [List.flatMap_append]; simp
    have hle : (puts size (nums.take (k + 1))).length ≤ (puts size nums).length := by
      have : puts size nums = puts size (nums.take (k + 1)) ++ puts size (nums.drop (k + 1)) := by
        rw [puts, puts, puts, ← List.flatMap_append, List.take_append_drop]
      rw [this, List.length_append]; omega
    have hnk : nums[k] < 4294967296 := hn _ (List.getElem_mem hlt)
    generalize hd : puts size (nums.take k) = d at *
    generalize nums[k] = n at *
    simp [m32r3]
    refine W_of (iaddr_i (row := [.int .u32 (n : Int)]) (by omega) (by simpa using hrow) rfl) ?_
    refine W_of (load_iptr (row := [.int .u32 (n : Int)]) (by simpa using hrow) rfl) ?_
    simp [m32r4]
    rw [wrp_i64 (by omega)]
    refine vc_loop (fun m σ H1 => ∃ (i : Nat) (f : List UInt8), m = i ∧ i ≤ size ∧ d ++ numB n size = f ++ numB n i ∧ H1 = (st f).2 ∧
      σ = [(0, (st f).1), (1, .int .i64 size), (8, .int .u32 n), (9, .int .i64 ((i : Int) - 1)), (10, .islice (rowsU32 nums)), (11, .int .i64 (nums.length : Int)), (12, .int .i64 k)]) size
      ⟨size, d, rfl, Nat.le_refl _, rfl, rfl, by simp⟩ ?_
    rintro i σ H1 ⟨_, f, rfl, hi, hf, rfl, rfl⟩
    simp [m32l8, m32r5, m32r9]
    refine ⟨fun hlt2 => ?_, fun hge2 => ?_⟩
    · obtain ⟨j, rfl⟩ : ∃ j, i = j + 1 := ⟨i - 1, by omega⟩
      simp [m32r6]
      rw [wrp_i64 (by omega)]
      have e1 : (8 * (j : Int)).toNat = 8 * j := by omega
      have e0 : min (8 * j) (bitsOf .u32) = 8 * j := by simp [bitsOf]; omega
      rw [e1, e0]
      have hw : (n : Int) / 2 ^ (8 * j) % 256 = ((UInt8.ofNat (n / 256 ^ j % 256)).toNat : Int) := by rw [shr_byte]; simp
      refine ⟨by omega, ?_⟩
      simp only [wrp]
      rw [hw]
      have hl : f.length < (puts size nums).length := by
        have := congrArg List.length hf
        rw [hpre] at hle
        simp [numB_len] at this hle
        omega
      refine W_of (hst f _ hl) ?_
      simp [m32r7]
      refine ⟨j, by omega, by omega, f ++ [UInt8.ofNat (n / 256 ^ j % 256)], by rw [hf]; simp [numB], rfl, rfl, ?_⟩
      rw [wrp_i64 (by omega)]
    · have : i = 0 := by omega
      subst this
      simp [numB] at hf
      subst hf
      rw [wrp_i64 (by omega)]
      refine ⟨nums.length - (k + 1), by omega, k + 1, rfl, hlt, by rw [hpre], by rw [hpre], by omega⟩
  · have : k = nums.length := by omega
    subst this
    rw [List.take_length]
    exact hv
end Go.Ab.Try.S
