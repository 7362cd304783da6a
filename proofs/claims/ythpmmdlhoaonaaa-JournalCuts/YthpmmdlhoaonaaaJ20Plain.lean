/- Plain facts of records as bytes. Conditions: none. -/
import Derived.Test.YthpmmdlhoaonaaaJ20Scan
namespace Go.Ab.Try.S

theorem u8_eq {a b : UInt8} (h : a.toNat = b.toNat) : a = b := UInt8.toNat_inj.1 h

theorem take_eq_of {a b : List UInt8} {n : Nat} (hb : b.length = n) (ha : n ≤ a.length) (h : ∀ j, j < n → gb a j = gb b j) : a.take n = b := by
  apply List.ext_getElem
  · simp; omega
  · intro i h1 h2
    have := h i (by omega)
    simp only [gb, List.getD_eq_getElem?_getD] at this
    rw [List.getElem?_eq_getElem (by simp at h1; omega), List.getElem?_eq_getElem h2] at this
    simp only [Option.getD_some] at this
    rw [List.getElem_take]
    exact u8_eq this

theorem gb_of_take {a b : List UInt8} {n : Nat} (h : a.take n = b) : ∀ j, j < n → gb a j = gb b j := by
  intro j hj
  subst h
  simp only [gb, List.getD_eq_getElem?_getD, List.getElem?_take, if_pos hj]

theorem head_eq {b : List UInt8} {n : Nat} (h : wrongB b n = false) (hl : 10 ≤ b.length) (hS : 10 + sizeB b ≤ b.length) : b.take (10 + sizeB b) = encH n (b.getD 1 0) ((b.drop 10).take (sizeB b)) := by
  match b, hl with
  | b0 :: b1 :: b2 :: b3 :: b4 :: b5 :: b6 :: b7 :: b8 :: b9 :: t, _ =>
    simp only [wrongB, Bool.or_eq_false_iff, Bool.and_eq_false_iff] at h
    obtain ⟨⟨h1, h2⟩, h3, h4⟩ := h
    have hd : ∀ i, i < 6 → i ≠ 1 → gb (b0 :: b1 :: b2 :: b3 :: b4 :: b5 :: b6 :: b7 :: b8 :: b9 :: t) i = gb (wantB n) i := by
      intro i hi hi1
      unfold hdrBad at h1
      rw [List.any_eq_false] at h1
      have := h1 i (List.mem_range.2 hi)
      simp at this
      exact this (by omega) hi1
    have e0 := hd 0 (by omega) (by omega)
    have e2 := hd 2 (by omega) (by omega)
    have e3 := hd 3 (by omega) (by omega)
    have e4 := hd 4 (by omega) (by omega)
    have e5 := hd 5 (by omega) (by omega)
    simp only [gb, wantB, numB, List.getD_cons_zero, List.getD_cons_succ] at e0 e2 e3 e4 e5
    have hsz : sizeB (b0 :: b1 :: b2 :: b3 :: b4 :: b5 :: b6 :: b7 :: b8 :: b9 :: t) = 256 * b6.toNat + b7.toNat := by simp [sizeB, gb]
    rw [hsz] at hS ⊢
    have l6 := b6.toNat_lt
    have l7 := b7.toNat_lt
    simp [gb] at h3 h4
    have hlen : (t.take (256 * b6.toNat + b7.toNat)).length = 256 * b6.toNat + b7.toNat := by
      rw [List.length_take]; simp at hS; omega
    have q6 : b6 = UInt8.ofNat ((256 * b6.toNat + b7.toNat) / 256 ^ 1 % 256) := u8_eq (by simp; omega)
    have q7 : b7 = UInt8.ofNat ((256 * b6.toNat + b7.toNat) / 256 ^ 0 % 256) := u8_eq (by simp)
    have q8 : b8 = UInt8.ofNat ((65535 - (256 * b6.toNat + b7.toNat)) / 256 ^ 1 % 256) := u8_eq (by simp; omega)
    have q9 : b9 = UInt8.ofNat ((65535 - (256 * b6.toNat + b7.toNat)) / 256 ^ 0 % 256) := u8_eq (by simp; omega)
    have et : (b0 :: b1 :: b2 :: b3 :: b4 :: b5 :: b6 :: b7 :: b8 :: b9 :: t).take (10 + (256 * b6.toNat + b7.toNat)) = b0 :: b1 :: b2 :: b3 :: b4 :: b5 :: b6 :: b7 :: b8 :: b9 :: t.take (256 * b6.toNat + b7.toNat) := by
      rw [show 10 + (256 * b6.toNat + b7.toNat) = (256 * b6.toNat + b7.toNat) + 10 by omega]
      rfl
    rw [et]
    have r0 := u8_eq e0
    have r2 := u8_eq e2
    have r3 := u8_eq e3
    have r4 := u8_eq e4
    have r5 := u8_eq e5
    simp only [encH, numB, List.drop_succ_cons, List.drop_zero, hlen, List.getD_cons_succ, List.getD_cons_zero, List.cons_append, List.nil_append]
    rw [← q6, ← q7, ← q8, ← q9, r0, r2, r3, r4, r5]

theorem enc_len (n : Nat) (k : UInt8) (d : List UInt8) : (encB n k d).length = 14 + d.length := by simp [encB, encH, numB_len]; omega

theorem sum_iff {b : List UInt8} {n : Nat} (h : wrongB b n = false) (hl : 14 + sizeB b ≤ b.length) :
    numB (crc (b.take (10 + sizeB b))) 4 = (b.drop (10 + sizeB b)).take 4 ↔ b.take (14 + sizeB b) = encB n (b.getD 1 0) ((b.drop 10).take (sizeB b)) := by
  have hh := head_eq h (by omega) (by omega)
  have e : b.take (14 + sizeB b) = b.take (10 + sizeB b) ++ (b.drop (10 + sizeB b)).take 4 := by
    rw [show 14 + sizeB b = (10 + sizeB b) + 4 by omega, List.take_add]
  rw [e]
  unfold encB
  rw [← hh]
  constructor
  · intro h; rw [h]
  · intro h; exact (List.append_cancel_left h).symm
end Go.Ab.Try.S
