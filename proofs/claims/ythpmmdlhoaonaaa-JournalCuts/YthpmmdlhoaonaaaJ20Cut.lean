/- What Scan reads from a journal that was written, or from a prefix of it. Conditions: none. -/
import Derived.Test.YthpmmdlhoaonaaaJ20Few
namespace Go.Ab.Try.S

theorem enc_cons (n : Nat) (k : UInt8) (d : List UInt8) : encB n k d = 167 :: k :: UInt8.ofNat (n / 256 ^ 3 % 256) :: UInt8.ofNat (n / 256 ^ 2 % 256) :: UInt8.ofNat (n / 256 ^ 1 % 256) :: UInt8.ofNat (n / 256 ^ 0 % 256) ::
    UInt8.ofNat (d.length / 256 ^ 1 % 256) :: UInt8.ofNat (d.length / 256 ^ 0 % 256) :: UInt8.ofNat ((65535 - d.length) / 256 ^ 1 % 256) :: UInt8.ofNat ((65535 - d.length) / 256 ^ 0 % 256) :: (d ++ numB (crc (encH n k d)) 4) := by
  simp [encB, encH, numB]

theorem encH_len (n : Nat) (k : UInt8) (d : List UInt8) : (encH n k d).length = 10 + d.length := by simp [encH, numB_len]; omega

theorem gb_cons0 (a : UInt8) (l : List UInt8) : gb (a :: l) 0 = a.toNat := rfl
theorem gb_consS (a : UInt8) (l : List UInt8) (i : Nat) : gb (a :: l) (i + 1) = gb l i := by simp [gb]

theorem ofNat_mod (x : Nat) : (UInt8.ofNat (x % 256)).toNat = x % 256 := by simp

theorem wrong_pre {t : List UInt8} {n : Nat} {k : UInt8} {d : List UInt8} (hd : d.length ≤ 4096) (h : ∀ i, i < t.length → i < 10 → gb t i = gb (encB n k d) i) : wrongB t n = false := by
  have e : ∀ i, i < 6 → i ≠ 1 → gb (encB n k d) i = gb (wantB n) i := by
    intro i hi h1
    rw [enc_cons]
    match i, hi, h1 with
    | 0, _, _ => rfl
    | 2, _, _ => rfl
    | 3, _, _ => rfl
    | 4, _, _ => rfl
    | 5, _, _ => rfl
  have e6 : gb (encB n k d) 6 = d.length / 256 := by rw [enc_cons]; simp only [gb_consS, gb_cons0, ofNat_mod]; omega
  have e7 : gb (encB n k d) 7 = d.length % 256 := by rw [enc_cons]; simp only [gb_consS, gb_cons0, ofNat_mod]; omega
  have e8 : gb (encB n k d) 8 = (65535 - d.length) / 256 := by rw [enc_cons]; simp only [gb_consS, gb_cons0, ofNat_mod]; omega
  have e9 : gb (encB n k d) 9 = (65535 - d.length) % 256 := by rw [enc_cons]; simp only [gb_consS, gb_cons0, ofNat_mod]; omega
  unfold wrongB
  have h1 : hdrBad t n = false := by
    unfold hdrBad
    rw [List.any_eq_false]
    intro i hi
    simp only [List.mem_range] at hi
    simp only [Bool.and_eq_true, decide_eq_true_eq, not_and, ne_eq, Decidable.not_not]
    intro ha
    rw [h i ha.1 (by omega), e i hi ha.2]
  rw [h1]
  simp only [Bool.false_or, Bool.or_eq_false_iff, Bool.and_eq_false_iff, decide_eq_false_iff_not, ne_eq, Decidable.not_not]
  refine ⟨?_, ?_, ?_⟩
  · by_cases hl : 8 ≤ t.length
    · right; rw [h 6 (by omega) (by omega), h 7 (by omega) (by omega), e6, e7]; omega
    · left; omega
  · by_cases hl : 9 ≤ t.length
    · right; rw [h 6 (by omega) (by omega), h 8 (by omega) (by omega), e6, e8]; omega
    · left; omega
  · by_cases hl : 10 ≤ t.length
    · right; rw [h 7 (by omega) (by omega), h 9 (by omega) (by omega), e7, e9]; omega
    · left; omega

theorem size_pre {t : List UInt8} {n : Nat} {k : UInt8} {d : List UInt8} (hl : 8 ≤ t.length) (hd : d.length ≤ 4096) (h : ∀ i, i < t.length → i < 10 → gb t i = gb (encB n k d) i) : sizeB t = d.length := by
  unfold sizeB
  rw [h 6 (by omega) (by omega), h 7 (by omega) (by omega), enc_cons]
  simp only [gb_consS, gb_cons0, ofNat_mod]
  omega

theorem gb_app {a b : List UInt8} {i : Nat} (h : i < a.length) : gb (a ++ b) i = gb a i := by
  simp only [gb, List.getD_eq_getElem?_getD, List.getElem?_append_left h]
theorem gb_take {a : List UInt8} {i s : Nat} (h : i < s) : gb (a.take s) i = gb a i := by
  simp only [gb, List.getD_eq_getElem?_getD, List.getElem?_take, if_pos h]

theorem oneB_ok {n : Nat} {k : UInt8} {d rest : List UInt8} (hn : n < 1048576) (hd : d.length ≤ 4096) : oneB (encB n k d ++ rest) n = .inl (k, d) := by
  have hp : ∀ i, i < (encB n k d ++ rest).length → i < 10 → gb (encB n k d ++ rest) i = gb (encB n k d) i := fun i _ h => gb_app (by rw [enc_len]; omega)
  have hl : 14 + d.length ≤ (encB n k d ++ rest).length := by rw [List.length_append, enc_len]; omega
  have hs := size_pre (by omega) hd hp
  have ht : (encB n k d ++ rest).take (10 + d.length) = encH n k d := by
    rw [← encH_len n k d]
    unfold encB
    rw [List.append_assoc, List.take_left]
  have hdr : (encB n k d ++ rest).drop (10 + d.length) = numB (crc (encH n k d)) 4 ++ rest := by
    rw [← encH_len n k d]
    unfold encB
    rw [List.append_assoc, List.drop_left]
  have := oneB0 (b := encB n k d ++ rest) hn (wrong_pre hd hp) (by rw [hs]; exact hl) (by
    rw [hs, ht, hdr]
    exact (List.take_left' (numB_len _ 4)).symm)
  rw [this, hs]
  have g1 : (encB n k d ++ rest).getD 1 0 = k := by rw [enc_cons]; rfl
  have g2 : ((encB n k d ++ rest).drop 10).take d.length = d := by
    rw [enc_cons]
    simp only [List.cons_append, List.drop_succ_cons, List.drop_zero, List.append_assoc]
    exact List.take_left
  rw [g1, g2]

theorem oneB_short {n s : Nat} {k : UInt8} {d rest : List UInt8} (hn : n < 1048576) (hd : d.length ≤ 4096) (hs : s < 14 + d.length) : oneB ((encB n k d ++ rest).take s) n = .inr 6 := by
  have hl : ((encB n k d ++ rest).take s).length = s := by rw [List.length_take, List.length_append, enc_len]; omega
  have hp : ∀ i, i < ((encB n k d ++ rest).take s).length → i < 10 → gb ((encB n k d ++ rest).take s) i = gb (encB n k d) i := fun i h1 h => by
    rw [gb_take (by omega)]; exact gb_app (by rw [enc_len]; omega)
  refine oneB6 hn (wrong_pre hd hp) ?_
  rw [hl]
  by_cases h8 : s < 14
  · omega
  · rw [size_pre (by omega) hd hp]; exact hs

theorem scan_cut : ∀ (l : List Rcd) (n f s : Nat), (∀ r ∈ l, r.2.length ≤ 4096) → n + l.length ≤ 1048576 → s ≤ (jrnF n l).length → s ≤ f →
    ∃ m, m ≤ l.length ∧ (jrnF n (l.take m)).length ≤ s ∧ (∀ h : m < l.length, s < (jrnF n (l.take m)).length + 14 + l[m].2.length) ∧ (scanF f ((jrnF n l).take s) n).1 = l.take m ∧
      (scanF f ((jrnF n l).take s) n).2.1.length = s - (jrnF n (l.take m)).length ∧ (scanF f ((jrnF n l).take s) n).2.2 = if s = (jrnF n (l.take m)).length then 0 else 6
  | [], n, f, s, hd, hn, hs, hf => by
    simp only [jrnF, List.length_nil, Nat.le_zero] at hs
    subst hs
    refine ⟨0, by simp, by simp [jrnF], fun h => by simp at h, ?_, ?_, ?_⟩ <;> cases f <;> simp [scanF, jrnF]
  | (k, d) :: t, n, f, s, hd, hn, hs, hf => by
    have h1 := hd (k, d) (by simp)
    simp only [List.length_cons] at hn
    simp only at h1
    by_cases h0 : s = 0
    · subst h0
      refine ⟨0, by simp, by simp [jrnF], fun h => by simp [jrnF]; omega, ?_, ?_, ?_⟩ <;> cases f <;> simp [scanF, jrnF]
    obtain ⟨f', rfl⟩ : ∃ f', f = f' + 1 := ⟨f - 1, by omega⟩
    by_cases hlt : s < 14 + d.length
    · have ho := oneB_short (rest := jrnF (n + 1) t) (k := k) (by omega : n < 1048576) h1 hlt
      have hll : ((encB n k d ++ jrnF (n + 1) t).take s).length = s := by rw [List.length_take, List.length_append, enc_len]; omega
      have hne : (encB n k d ++ jrnF (n + 1) t).take s ≠ [] := fun h => by rw [h] at hll; simp at hll; omega
      have e : scanF (f' + 1) ((jrnF n ((k, d) :: t)).take s) n = ([], (encB n k d ++ jrnF (n + 1) t).take s, 6) := by
        simp only [jrnF]
        unfold scanF
        rw [if_neg hne, ho]
      rw [e]
      refine ⟨0, by simp, by simp [jrnF], fun h => by simp [jrnF]; omega, by simp, by simpa [jrnF] using hll, by simp [jrnF, h0]⟩
    · have hle : 14 + d.length ≤ s := by omega
      have hel := enc_len n k d
      have es : (jrnF n ((k, d) :: t)).take s = encB n k d ++ (jrnF (n + 1) t).take (s - (14 + d.length)) := by
        simp only [jrnF]
        rw [List.take_append, hel, List.take_of_length_le (by omega)]
      have ho := oneB_ok (rest := (jrnF (n + 1) t).take (s - (14 + d.length))) (k := k) (by omega : n < 1048576) h1
      have hne : encB n k d ++ (jrnF (n + 1) t).take (s - (14 + d.length)) ≠ [] := by rw [enc_cons]; simp
      have hdr : (encB n k d ++ (jrnF (n + 1) t).take (s - (14 + d.length))).drop (14 + d.length) = (jrnF (n + 1) t).take (s - (14 + d.length)) := by
        rw [← hel, List.drop_left]
      have e : scanF (f' + 1) ((jrnF n ((k, d) :: t)).take s) n = ((k, d) :: (scanF f' ((jrnF (n + 1) t).take (s - (14 + d.length))) (n + 1)).1, (scanF f' ((jrnF (n + 1) t).take (s - (14 + d.length))) (n + 1)).2) := by
        rw [es]
        rw [scanF, if_neg hne, ho]
        simp only [hdr]
      have hs2 : s - (14 + d.length) ≤ (jrnF (n + 1) t).length := by
        simp only [jrnF, List.length_append, hel] at hs; omega
      obtain ⟨m, m1, m2, m3, m4, m5, m6⟩ := scan_cut t (n + 1) f' (s - (14 + d.length)) (fun r hr => hd r (by simp [hr])) (by omega) hs2 (by omega)
      have ej : (jrnF n (((k, d) :: t).take (m + 1))).length = 14 + d.length + (jrnF (n + 1) (t.take m)).length := by simp [jrnF, hel]
      rw [e]
      refine ⟨m + 1, by simp; exact m1, by rw [ej]; omega, fun h => ?_, by simp [m4], by rw [ej, m5]; omega, ?_⟩
      · have := m3 (by simpa using h)
        rw [ej]
        simp only [List.getElem_cons_succ]
        omega
      · rw [m6, ej]
        by_cases hc : s - (14 + d.length) = (jrnF (n + 1) (t.take m)).length
        · rw [if_pos hc, if_pos (by omega)]
        · rw [if_neg hc, if_neg (by omega)]
end Go.Ab.Try.S
