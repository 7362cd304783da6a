/- One record: next, One. Conditions: none. -/
import Derived.Test.YthpmmdlhoaonaaaJ20Dam
namespace Go.Ab.Try.S
open Go.Proofs

def sizeB (b : List UInt8) : Nat := 256 * gb b 6 + gb b 7
/-- The record with the number n at the front of b: its kind and data, or the error. -/
def oneB (b : List UInt8) (n : Nat) : (UInt8 × List UInt8) ⊕ Nat :=
  if 1048576 ≤ n ∨ wrongB b n = true then .inr 5
  else if b.length < 14 + sizeB b then .inr 6
  else if numB (crc (b.take (10 + sizeB b))) 4 ≠ (b.drop (10 + sizeB b)).take 4 then .inr 11
  else .inl (b.getD 1 0, (b.drop 10).take (sizeB b))

theorem oneB5 {b : List UInt8} {n : Nat} (h : 1048576 ≤ n ∨ wrongB b n = true) : oneB b n = .inr 5 := if_pos h
theorem oneB6 {b : List UInt8} {n : Nat} (h1 : n < 1048576) (h2 : wrongB b n = false) (h3 : b.length < 14 + sizeB b) : oneB b n = .inr 6 := by
  unfold oneB; rw [if_neg (by rw [h2]; simp; exact h1), if_pos h3]
theorem oneB11 {b : List UInt8} {n : Nat} (h1 : n < 1048576) (h2 : wrongB b n = false) (h3 : 14 + sizeB b ≤ b.length) (h4 : numB (crc (b.take (10 + sizeB b))) 4 ≠ (b.drop (10 + sizeB b)).take 4) : oneB b n = .inr 11 := by
  unfold oneB; rw [if_neg (by rw [h2]; simp; exact h1), if_neg (by omega), if_pos h4]
theorem oneB0 {b : List UInt8} {n : Nat} (h1 : n < 1048576) (h2 : wrongB b n = false) (h3 : 14 + sizeB b ≤ b.length) (h4 : numB (crc (b.take (10 + sizeB b))) 4 = (b.drop (10 + sizeB b)).take 4) : oneB b n = .inl (b.getD 1 0, (b.drop 10).take (sizeB b)) := by
  unfold oneB; rw [if_neg (by rw [h2]; simp; exact h1), if_neg (by omega), if_neg (by simp [h4])]

def curV (b : List UInt8) (n : Nat) : Row := [.islice (rowsU8 b), .int .i64 n]

theorem wrong_size {b : List UInt8} {n : Nat} (h : wrongB b n = false) (hl : 8 ≤ b.length) : sizeB b ≤ 4096 := by
  simp [wrongB] at h
  have := h.2
  unfold sizeB
  have := h.1.2 hl
  omega

def nextV (b : List UInt8) (n : Nat) : AV :=
  match oneB b n with
  | .inr e => .tup [.agg [.int .u8 0, .islice []], .int .u8 (e : Nat)]
  | .inl (k, d) => .tup [.agg (recV k d), .int .u8 0]
def nextH (H : Heap) (r : Nat) (b : List UInt8) (n : Nat) : Heap :=
  match oneB b n with
  | .inr _ => H
  | .inl (_, d) => H.set r (.rows 0 2 [curV (b.drop (14 + d.length)) (n + 1)])

theorem fin_err {H J : Heap} {e : Int} : Fin H (.tup [.agg [.int .u8 0, .nils], .int .u8 e]) (H ++ J) (.tup [.agg [.int .u8 0, .islice []], .int .u8 e]) H :=
  fin_tmp rfl (fun r b h => .inl h) (CVs.cons (CVs.cons (.refl .int) (CVs.cons .nil0 .nil)).agg (CVs.cons (.refl .int) .nil)).tup

theorem cur_cl (b : List UInt8) (n : Nat) (m : Nat) : BCl m (.rows 0 2 [curV b n]) := by
  refine .rows fun i row j c h1 h2 => ?_
  match i with
  | 0 =>
    simp at h1
    subst h1
    exact (Cls.cons (cl_plain (rowsU8_plain b)) (Cls.cons .int .nil) : Cls m (curV b n)) j c h2
  | i + 1 => simp at h1

/-- Facts of arithmetic, kept together (so that omega does not look into them). -/
structure NF (b : List UInt8) (S : Nat) : Prop where
  w1 : ∀ k, wrp .i64 (gb b k : Int) = (gb b k : Int)
  w2 : wrp .i64 ((gb b 6 : Int) * 256) = (gb b 6 : Int) * 256
  w3 : wrp .i64 (256 * (gb b 6 : Int)) = 256 * (gb b 6 : Int)
  w4 : min 8 (bitsOf .i64) = 8
  w5 : wrp .i64 (10 + (gb b 6 : Int) * 256) = 10 + (gb b 6 : Int) * 256
  w6 : wrp .i64 (10 + (gb b 6 : Int) * 256 + gb b 7) = 10 + (S : Int)
  w6' : wrp .i64 (256 * (gb b 6 : Int) + gb b 7) = (S : Int)
  w7 : wrp .i64 (10 + (S : Int) + 4) = 14 + (S : Int)
  w8 : wrp .i64 (10 + (S : Int)) = 10 + (S : Int)
  w9 : wrp .i64 (14 + (S : Int)) = 14 + (S : Int)
  w10 : wrp .i64 (10 + (S : Int) - 10) = (S : Int)

theorem next_facts (b : List UInt8) (h3 : 10 ≤ (b.length : Int)) (hs : sizeB b ≤ 4096) : ∃ S : Nat, S = sizeB b ∧ S ≤ 4096 ∧ NF b S ∧ (∀ k, k < 10 → (rowsU8 b)[k]? = some [.int .u8 (gb b k : Nat)]) ∧ (6 : Int) < b.length ∧ (7 : Int) < b.length ∧ (1 : Int) < b.length := by
  have g6 := gb_lt b 6
  have g7 := gb_lt b 7
  obtain ⟨S, hS⟩ : ∃ S, S = sizeB b := ⟨_, rfl⟩
  have hS2 : (S : Int) = 256 * (gb b 6 : Int) + gb b 7 := by rw [hS]; unfold sizeB; omega
  rw [← hS] at hs
  exact ⟨S, hS, hs, ⟨fun k => wrp_i64 (by have := gb_lt b k; omega), wrp_i64 (by omega), wrp_i64 (by omega), rfl, wrp_i64 (by omega), (wrp_i64 (by omega)).trans (by omega), (wrp_i64 (by omega)).trans (by omega), (wrp_i64 (by omega)).trans (by omega), wrp_i64 (by omega), wrp_i64 (by omega), (wrp_i64 (by omega)).trans (by omega)⟩, fun k hk => get_u8 (by omega), by omega, by omega, by omega⟩

theorem next_facts2 (b : List UInt8) (S : Nat) (h : 14 + S ≤ b.length) (hb : b.length < 9223372036854775807) : (0 : Int) ≤ 10 + (S : Int) ∧ (10 + (S : Int)).toNat = 10 + S ∧ 10 + S ≤ b.length ∧ (14 + (S : Int)).toNat = 14 + S ∧ (0 : Int) ≤ 14 + (S : Int) ∧ 14 + S - (10 + S) = 4 ∧ 10 + S ≤ 14 + S ∧ (b.take (10 + S)).length < 9223372036854775807 := by
  refine ⟨by omega, by omega, by omega, by omega, by omega, by omega, by omega, ?_⟩
  rw [List.length_take]; omega

theorem next34 (H : Heap) (r : Nat) (b : List UInt8) (n : Nat) (hr : H[r]? = some (.rows 0 2 [[.islice (rowsU8 b), .int .i64 n]])) (hn : n ≤ 1048576) (hb : b.length < 9223372036854775807) :
    Spec Try.prog 34 [.ptr r 0 0 0] H (nextV b n) (nextH H r b n) := by
  refine spec_of_wp (C := Spec Try.prog) (fun _ _ _ _ _ h => h) mixed m34_ok (show 1 ≤ _ by decide) ?_
  have hlt := (List.getElem?_eq_some_iff.1 hr).1
  have hr1 := fun N : Heap => append_get (N := N) hr
  unfold m34
  simp [m34r0, m34r1, envOf, row_of (hr1 _)]
  simp +contextual [m34r2, row_of (hr1 _)]
  refine gdG_call (v := .bool (wrongB b n)) (fun h => damaged37 _ r b n (hr1 _) (by omega) hb) ?_
  have c1 : ∀ m : Nat, (1048576 ≤ (m : Int)) ↔ 1048576 ≤ m := by intro m; omega
  simp +contextual [m34r3, m34r4, m34r5]
  refine ⟨fun h => ?_, fun h1 h2 => ⟨fun h3 => ?_, fun h3 => ?_⟩⟩
  · have : oneB b n = .inr 5 := oneB5 (by rcases h with h | h; exact .inl (by omega); exact .inr h)
    simp only [nextV, nextH, this]
    exact fin_err
  · have : oneB b n = .inr 6 := oneB6 (by omega) h2 (by omega)
    simp only [nextV, nextH, this]
    exact fin_err
  have hs := wrong_size h2 (by omega)
  obtain ⟨S, hS, hs', nf, hg, hl6, hl7, hl1⟩ := next_facts b h3 hs
  simp [m34r6, m34r7, iaddr_is, hg, hl6, hl7, nf.w1, nf.w2, nf.w4, nf.w5, nf.w6, -Int.natCast_add]
  simp +contextual [m34r8, m34r9, nf.w7]
  refine ⟨fun h4 => ?_, fun h4 => ?_⟩
  · have : oneB b n = .inr 6 := oneB6 (by omega) h2 (by omega)
    simp only [nextV, nextH, this]
    exact fin_err
  have hle : 14 + S ≤ b.length := by omega
  obtain ⟨q1, q2, q3, q4, q5, q6, q7, q8⟩ := next_facts2 b S hle hb
  simp [m34r10, q1, q2, q3, rowsU8_take]
  refine ⟨rowsU8_row b, ?_⟩
  refine vc_call ((check14 (b.take (10 + S)) q8).frame (Cls.cons (cl_plain (rowsU8_plain _)) .nil) .int _) ?_
  simp
  refine vc_call ((put_nil (size := 4) (nums := [crc (b.take (10 + S))]) (by simp; exact crc_lt _) (by omega) (by simp)).frame (Cls.cons .nils (Cls.cons .int (Cls.cons (.islice (by
    intro i row j c a1 a2
    match i with
    | 0 => simp [rowsU32] at a1; subst a1; match j with
      | 0 => simp at a2; subst a2; exact .int
      | j + 1 => simp at a2
    | i + 1 => simp [rowsU32] at a1)) .nil))) (cl_plain (rowsU8_plain _)) _) ?_
  have p3 : puts 4 [crc (b.take (10 + S))] = numB (crc (b.take (10 + S))) 4 := by simp [puts]
  rw [p3]
  simp [m34r11, m34r12, nf.w7, q1, q2, q3, q4, q5, q6, q7, bytesOf_rowsU8, rowsU8_take, rowsU8_drop, rowsU8_row, hle]
  refine ⟨rowsU8_row b, fun h5 => ?_, fun h5 => ?_⟩
  · have : oneB b n = .inr 11 := oneB11 (by omega) h2 (by omega) (by rw [← hS]; exact h5)
    simp [m34r13]
    simp only [nextV, nextH, this]
    exact fin_err
  have hone := oneB0 (b := b) (n := n) (by omega) h2 (by omega) (by rw [← hS]; exact h5)
  have hbz : (0 : Int) ≤ (S : Int) ∧ (S : Int) ≤ (roomB : Int) := by simp [roomB]; omega
  simp [m34r14, m34r15, iaddr_is, hg, hl1, nf.w10, hbz.1, hbz.2, putU]
  simp [m34r16, m34r17, m34r18, m34r19, m34r20, q1, q2, q3, rowsU8_take, rowsU8_drop, putU]
  have hdl : (b.drop 10).length = b.length - 10 := by simp
  have htl : ((b.drop 10).take S).length = S := by rw [List.length_take, hdl]; omega
  refine ⟨rowsU8_row b, W_of (copy_all (rs := List.replicate S [.int .u8 0]) (by rw [at_app]; rfl) rfl (rowsU8_row _) (by simpa using htl) (by simp)) ?_⟩
  have hr2 : ∀ (blk : ABlk) (N : Heap), (H.set r blk ++ N)[r]? = some blk := fun blk N => append_get (List.getElem?_set_self hlt)
  have hset2 : ∀ (x y : ABlk) (L : Heap), (H.set r x ++ L).set r y = H.set r y ++ L := fun x y L => by rw [set_appl (by simpa using hlt), List.set_set]
  have hset := fun (L : Heap) (x : ABlk) => set_appl (H := H) (L := L) (x := x) hlt
  simp [m34r21, q4, q5, hle, blkOf_of (hr1 _), hset, rowsU8_drop, nf.w7]
  refine ⟨rowsU8_row b, ?_⟩
  have hdr : (rowsU8 (b.drop (14 + S))).take (b.length - (14 + S)) = rowsU8 (b.drop (14 + S)) := List.take_of_length_le (by simp)
  rw [hdr]
  have hn1 : wrp .i64 ((n : Int) + 1) = (n : Int) + 1 := wrp_i64 (by omega)
  simp [m34r22, row_of (hr2 _ _), blkOf_of (hr2 _ _), hn1, hset2]
  have hNH : nextH H r b n = H.set r (.rows 0 2 [[.islice (rowsU8 (b.drop (14 + S))), .int .i64 ((n : Int) + 1)]]) := by
    unfold nextH
    rw [hone, ← hS]
    simp only [htl]
    rfl
  have hNV : nextV b n = .tup [.agg [.int .u8 (gb b 1 : Nat), .islice (rowsU8 ((b.drop 10).take S))], .int .u8 0] := by
    unfold nextV
    rw [hone, ← hS]
    rfl
  rw [hNH, hNV]
  have hbcl : BCl H.length (.rows 0 2 [[.islice (rowsU8 (b.drop (14 + S))), .int .i64 ((n : Int) + 1)]]) := cur_cl (b.drop (14 + S)) (n + 1) H.length
  have hold := set_old (H0 := H) (k := r) hbcl
  have hlen : (H.set r (.rows 0 2 [[.islice (rowsU8 (b.drop (14 + S))), .int .i64 ((n : Int) + 1)]])).length = H.length := by simp
  generalize H.set r (.rows 0 2 [[.islice (rowsU8 (b.drop (14 + S))), .int .i64 ((n : Int) + 1)]]) = H2 at hold hlen ⊢
  rw [← hlen]
  simp [m34r23]
  rw [hlen]
  refine fin_tmp hlen hold (CVs.cons (CVs.cons (.refl .int) (CVs.cons ?_ .nil)).agg (CVs.cons (.refl .int) .nil)).tup
  generalize (b.drop 10).take S = X at htl
  have := CV.freeze (n := H.length) (J := [ABlk.rows 0 2 [[AV.int .u8 ↑(gb b 1), AV.slice (H.length + 1) 0 0 S]], ABlk.rows 0 1 (rowsU8 X), ABlk.rows 0 2 [[AV.int .u8 ↑(gb b 1), AV.slice (H.length + 1) 0 0 S]]]) (ks := []) (k := 1) (g := 0) (s := 1) (a := 0) (m := S) (rs := rowsU8 X) rfl (by simp) (by simp; omega) (rowsU8_row _)
    (fun row hr c hc => ⟨(rowsU8_plain X row hr c hc).1, (rowsU8_plain X row hr c hc).2.mono (Nat.zero_le _)⟩)
  rw [List.drop_zero, List.take_of_length_le (by simp; omega)] at this
  exact this
end Go.Ab.Try.S
