/- Encode, the program's and the reference's: the bytes of a record. Conditions: none. -/
import Derived.Test.YthpmmdlhoaonaaaJ20Enc
import Derived.Test.YthpmmdlhoaonaaaAbFrame
namespace Go.Ab.Try.S
open Go.Proofs

def encH (n : Nat) (k : UInt8) (d : List UInt8) : List UInt8 := 167 :: k :: (numB n 4 ++ numB d.length 2 ++ numB (65535 - d.length) 2 ++ d)
def encB (n : Nat) (k : UInt8) (d : List UInt8) : List UInt8 := encH n k d ++ numB (crc (encH n k d)) 4
def recV (k : UInt8) (d : List UInt8) : List AV := [.int .u8 k.toNat, .islice (rowsU8 d)]
def encV (n : Int) (k : UInt8) (d : List UInt8) : AV :=
  if n < 0 ∨ 1048576 ≤ n then .tup [.islice [], .int .u8 3] else if 4096 < d.length then .tup [.islice [], .int .u8 4] else .tup [.islice (rowsU8 (encB n.toNat k d)), .int .u8 0]

theorem crc_lt (b : List UInt8) : crc b < 4294967296 := by
  have hb : ∀ n c, c < 4294967296 → bits n c < 4294967296 := by
    intro n
    induction n with
    | zero => intro c h; exact h
    | succ n ih => intro c h; exact ih _ (bit_lt h)
  have hf : ∀ (b : List UInt8) c, c < 4294967296 → crcFold b c < 4294967296 := by
    intro b
    induction b with
    | nil => intro c h; exact h
    | cons x b ih =>
      intro c h
      have hx := x.toNat_lt
      exact ih _ (hb 8 _ (xor_lt32 h (by omega)))
  exact xor_lt32 (hf _ _ (by omega)) (by omega)

theorem lend_own {H : Heap} {r g : Nat} {b : List UInt8} (hr : H[r]? = some (.rows g 1 (rowsU8 b))) : Lend H (.slice r g 0 b.length) (.islice (rowsU8 b)) := by
  refine .slice ?_ fun i row j c h1 h2 => ((rowsU8_plain b) row (List.mem_of_getElem? h1) c (List.mem_of_getElem? h2)).2
  simp [elems, Heap.rowsOf, hr, req, List.take_of_length_le]

theorem cl_rec (k : UInt8) (d : List UInt8) : Cl 0 (.agg (recV k d)) := by
  refine .agg fun i c h => ?_
  match i with
  | 0 => simp [recV] at h; subst h; exact .int
  | 1 => simp [recV] at h; subst h; exact cl_plain (rowsU8_plain d)
  | i + 2 => simp [recV] at h

theorem encode12 (n : Int) (k : UInt8) (d : List UInt8) (hd : d.length ≤ 1000000) : Spec Try.prog 12 [.int .i64 n, .agg (recV k d)] [] (encV n k d) [] := by
  refine spec_of_wp (C := Spec Try.prog) (fun _ _ _ _ _ h => h) mixed m12_ok (show 2 ≤ 53 by decide) ?_
  unfold m12
  simp +contextual [m12r0, m12r1, envOf, recV, m12r2, m12r3, m12r4, m12r5, m12r6, m12r7]
  refine ⟨fun h => fin_drop ?_, fun h0 h1 => ⟨fun h2 => fin_drop ?_, fun h2 => ⟨?_, ?_⟩⟩⟩
  · rw [encV, if_pos h]
    exact .tup rfl fun i c c' a b => by
      match i with
      | 0 => simp at a b; subst a b; exact .nil0
      | 1 => simp at a b; subst a b; exact .refl .int
  · rw [encV, if_neg (by omega), if_pos (by omega)]
    exact .tup rfl fun i c c' a b => by
      match i with
      | 0 => simp at a b; subst a b; exact .nil0
      | 1 => simp at a b; subst a b; exact .refl .int
  · rw [wrp_i64 (n := 10 + (d.length : Int)) (by omega), wrp_i64 (by omega)]
    exact ⟨by omega, by simp [roomB]; omega⟩
  refine W_app (rs := []) rfl rfl (by simp) (by simp [roomB]) fun g => ?_
  simp +contextual [m12r8]
  have e0 : wrp .u32 n = ((n.toNat : Nat) : Int) := by rw [wrp_u32 (by omega)]; omega
  rw [e0]
  obtain ⟨N, rfl⟩ : ∃ N : Nat, n = N := ⟨n.toNat, by omega⟩
  have hN : N < 1048576 := by omega
  simp only [Int.toNat_natCast]
  refine vc_call (put_own (r := 1) (g := g) (size := 4) (b := [167, k]) (nums := [N]) rfl (by simp; omega) (by omega) (by simp) (by simp)) ?_
  have p1 : puts 4 [N] = numB N 4 := by simp [puts]
  rw [p1]
  generalize hg1 : g + (numB N 4).length = g1
  simp +contextual [m12r9, numB_len]
  have e1 : wrp .u32 (d.length : Int) = ((d.length : Nat) : Int) := wrp_u32 (by omega)
  have e2 : wrp .u32 (65535 - (d.length : Int)) = ((65535 - d.length : Nat) : Int) := by rw [wrp_u32 (by omega)]; omega
  rw [e1, e2]
  refine vc_call (by
    have := put_own (H := [ABlk.rows 0 2 [[AV.int IntKind.u8 ↑k.toNat, AV.islice (rowsU8 d)]], .rows g1 1 (rowsU8 (167 :: k :: numB N 4))]) (r := 1) (g := g1) (size := 2) (b := 167 :: k :: numB N 4) (nums := [d.length, 65535 - d.length]) rfl (by simp; omega) (by omega) (by simp) (by simp [numB_len])
    simpa [numB_len, rowsU32] using this) ?_
  have p2 : puts 2 [d.length, 65535 - d.length] = numB d.length 2 ++ numB (65535 - d.length) 2 := by simp [puts]
  rw [p2]
  generalize hg2 : g1 + _ = g2
  simp +contextual [m12r10, numB_len]
  generalize hhd : 167 :: k :: (numB N 4 ++ (numB d.length 2 ++ numB (65535 - d.length) 2)) = hd1
  have hl1 : hd1.length = 10 := by rw [← hhd]; simp [numB_len]
  have hE : encH N k d = hd1 ++ d := by rw [← hhd, encH]; simp
  have e3 : (AV.slice 1 g2 0 10) = .slice 1 g2 0 (rowsU8 hd1).length := by simp [hl1]
  rw [e3]
  refine W_app (rs := rowsU8 hd1) rfl rfl (rowsU8_row d) (by simp [roomB]; omega) fun g3 => ?_
  rw [← rowsU8_append, ← hE, rowsU8_len, rowsU8_len, ← List.length_append, ← hE]
  have hlE : (encH N k d).length ≤ 5000 := by rw [hE, List.length_append]; omega
  simp +contextual [m12r11]
  refine vc_call ((check14 (encH N k d) (by omega)).lend rfl (fun i c c' a b => by
    match i with
    | 0 => simp at a b; subst a b; exact lend_own rfl) .int) ?_
  simp +contextual
  refine vc_call (put_own (r := 1) (g := g3) (size := 4) (b := encH N k d) (nums := [crc (encH N k d)]) rfl (by simp; exact crc_lt _) (by omega) (by simp) (by omega)) ?_
  have p3 : puts 4 [crc (encH N k d)] = numB (crc (encH N k d)) 4 := by simp [puts]
  rw [p3]
  simp +contextual
  refine fin_drop ?_
  rw [encV, if_neg (by omega), if_neg (by omega), Int.toNat_natCast]
  have hown : ∀ (H : Heap) g b, H[1]? = some (.rows g 1 (rowsU8 b)) → Own H 1 1 (.slice 1 g 0 b.length) (rowsU8 b) := fun H g b hr => ⟨g, 0, b.length, rowsU8 b, rfl, hr, by simp, by simp [List.take_of_length_le], rowsU8_row b⟩
  refine .tup rfl fun i c c' a b => ?_
  match i with
  | 0 =>
    simp at a b
    subst a b
    have := (hown [ABlk.rows 0 2 [[AV.int IntKind.u8 ↑k.toNat, AV.islice (rowsU8 d)]], .rows (g3 + (numB (crc (encH N k d)) 4).length) 1 (rowsU8 (encB N k d))] _ (encB N k d) rfl).freeze (rowsU8_plain _)
    simpa [encB] using this
  | 1 => simp at a b; subst a b; exact .refl .int

theorem own_at {H : Heap} {r g : Nat} {b : List UInt8} (hr : H[r]? = some (.rows g 1 (rowsU8 b))) : Own H r 1 (.slice r g 0 b.length) (rowsU8 b) := ⟨g, 0, b.length, rowsU8 b, rfl, hr, by simp, by simp [List.take_of_length_le], rowsU8_row b⟩

theorem number_in {n s : Nat} (hn : n < 9223372036854775808) (hs : s ≤ 100) (H : Heap) : Spec Try.prog 33 [.int .i64 n, .int .i64 s] H (.islice (rowsU8 (numB n s))) H :=
  (number33 n s hn hs).frame (fun i c h => by
    match i with
    | 0 => simp at h; subst h; exact .int
    | 1 => simp at h; subst h; exact .int
    | i + 2 => simp at h) (cl_plain (rowsU8_plain _)) H

theorem rencode13 (n : Int) (k : UInt8) (d : List UInt8) (hd : d.length ≤ 1000000) : Spec Try.prog 13 [.int .i64 n, .agg (recV k d)] [] (encV n k d) [] := by
  refine spec_of_wp (C := Spec Try.prog) (fun _ _ _ _ _ h => h) mixed m13_ok (show 2 ≤ 47 by decide) ?_
  unfold m13
  simp +contextual [m13r0, m13r1, envOf, recV, m13r2, m13r3, m13r4, m13r5, m13r6]
  refine ⟨fun h => fin_drop ?_, fun h0 h1 => ⟨fun h2 => fin_drop ?_, fun h2 => ?_⟩⟩
  · rw [encV, if_pos h]
    exact .tup rfl fun i c c' a b => by
      match i with
      | 0 => simp at a b; subst a b; exact .nil0
      | 1 => simp at a b; subst a b; exact .refl .int
  · rw [encV, if_neg (by omega), if_pos (by omega)]
    exact .tup rfl fun i c c' a b => by
      match i with
      | 0 => simp at a b; subst a b; exact .nil0
      | 1 => simp at a b; subst a b; exact .refl .int
  obtain ⟨N, rfl⟩ : ∃ N : Nat, n = N := ⟨n.toNat, by omega⟩
  refine vc_call (number_in (by omega) (s := 4) (by omega) _) ?_
  simp +contextual
  refine W_app (rs := rowsU8 [167, k]) rfl rfl (rowsU8_row _) (by simp [roomB, numB_len]) fun g => ?_
  simp +contextual [m13r7, ← rowsU8_append, numB_len]
  refine vc_call (number_in (by omega) (s := 2) (by omega) _) ?_
  simp +contextual
  have e1 : (AV.slice 1 g 0 6) = .slice 1 g 0 (rowsU8 (167 :: k :: numB N 4)).length := by simp [numB_len]
  rw [e1]
  refine W_app (rs := rowsU8 (167 :: k :: numB N 4)) rfl rfl (rowsU8_row _) (by simp [roomB, numB_len]) fun g => ?_
  simp +contextual [m13r8, ← rowsU8_append, numB_len]
  have e2 : wrp .i64 (65535 - (d.length : Int)) = ((65535 - d.length : Nat) : Int) := by rw [wrp_i64 (by omega)]; omega
  rw [e2]
  refine vc_call (number_in (by omega) (s := 2) (by omega) _) ?_
  simp +contextual
  have e3 : (AV.slice 1 g 0 8) = .slice 1 g 0 (rowsU8 (167 :: k :: (numB N 4 ++ numB d.length 2))).length := by simp [numB_len]
  rw [e3]
  refine W_app (rs := rowsU8 (167 :: k :: (numB N 4 ++ numB d.length 2))) rfl rfl (rowsU8_row _) (by simp [roomB, numB_len]) fun g => ?_
  simp +contextual [m13r9, ← rowsU8_append, numB_len]
  generalize hhd : 167 :: k :: (numB N 4 ++ (numB d.length 2 ++ numB (65535 - d.length) 2)) = hd1
  have hl1 : hd1.length = 10 := by rw [← hhd]; simp [numB_len]
  have hE : encH N k d = hd1 ++ d := by rw [← hhd, encH]; simp
  have e4 : (AV.slice 1 g 0 10) = .slice 1 g 0 (rowsU8 hd1).length := by simp [hl1]
  rw [e4]
  refine W_app (rs := rowsU8 hd1) rfl rfl (rowsU8_row d) (by simp [roomB]; omega) fun g3 => ?_
  rw [← rowsU8_append, ← hE, rowsU8_len, rowsU8_len, ← List.length_append, ← hE]
  have hlE : (encH N k d).length ≤ 5000 := by rw [hE, List.length_append]; omega
  simp +contextual [m13r10]
  refine vc_call ((rcheck15 (encH N k d) (by omega)).lend rfl (fun i c c' a b => by
    match i with
    | 0 => simp at a b; subst a b; exact lend_own rfl) .int) ?_
  simp +contextual
  have hc := crc_lt (encH N k d)
  rw [wrp_i64 (by omega)]
  refine vc_call (number_in (by omega) (s := 4) (by omega) _) ?_
  simp +contextual
  have e5 : (AV.slice 1 g3 0 (encH N k d).length) = .slice 1 g3 0 (rowsU8 (encH N k d)).length := by simp
  rw [e5]
  refine W_app (rs := rowsU8 (encH N k d)) rfl rfl (rowsU8_row _) (by simp [roomB, numB_len]; omega) fun g4 => ?_
  rw [← rowsU8_append]
  simp +contextual
  refine fin_drop ?_
  rw [encV, if_neg (by omega), if_neg (by omega), Int.toNat_natCast]
  refine .tup rfl fun i c c' a b => ?_
  match i with
  | 0 =>
    simp at a b
    subst a b
    have := (own_at (r := 1) (g := g4) (b := encB N k d) (H := [ABlk.rows 0 2 [[AV.int IntKind.u8 ↑k.toNat, AV.islice (rowsU8 d)]], .rows g4 1 (rowsU8 (encB N k d))]) rfl).freeze (rowsU8_plain _)
    simpa [encB] using this
  | 1 => simp at a b; subst a b; exact .refl .int
end Go.Ab.Try.S
