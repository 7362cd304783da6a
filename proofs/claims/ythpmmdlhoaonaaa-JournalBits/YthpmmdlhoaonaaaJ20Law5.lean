/- The loop of JournalBits that seeks the damaged record. Conditions: none. -/
import Derived.Test.YthpmmdlhoaonaaaJ20Flip
import Derived.Test.YthpmmdlhoaonaaaJ20FnW3
import Derived.Test.YthpmmdlhoaonaaaJ20Lives
import Derived.Test.YthpmmdlhoaonaaaJ20Law4
namespace Go.Ab.Try.S
open Go.Proofs

theorem bits_loop {l2 : List Rcd} {b : List UInt8} {at' p : Nat} {K : Ex → Env → Heap → Prop} (d1 : (at' : Int).tdiv 8 = p) (wp : wrp .i64 (p : Int) = p) (hpl : p < endB l2 l2.length) (hl : l2.length ≤ 20)
    (hk : ∀ k, k < l2.length → endB l2 k ≤ p → p < endB l2 (k + 1) → ∀ x, K (.exit 0) [(0, .islice (recRows l2)), (6, .islice (rowsI64 (endsF 0 l2))), (8, .int .i64 at'), (9, .islice (rowsU8 b)), (10, .int .i64 k), (59, x)] []) :
    wpC (Spec Try.prog) [] (MCode.loop [0, 6, 8, 9, 10] W.m5l15) [(0, .islice (recRows l2)), (6, .islice (rowsI64 (endsF 0 l2))), (8, .int .i64 at'), (9, .islice (rowsU8 b)), (10, .int .i64 0)] [] K := by
  have hel := endsF_len l2 0
  refine vc_loop (fun m σ H => ∃ j : Nat, m = l2.length - j ∧ j ≤ l2.length ∧ endB l2 j ≤ p ∧ H = [] ∧
    σ = [(0, .islice (recRows l2)), (6, .islice (rowsI64 (endsF 0 l2))), (8, .int .i64 at'), (9, .islice (rowsU8 b)), (10, .int .i64 j)]) l2.length
    ⟨0, by omega, by omega, by simp [endB, jrnB, jrnF], rfl, rfl⟩ ?_
  rintro m σ H ⟨j, rfl, hj, he, rfl, rfl⟩
  have hlt : j < l2.length := by
    refine Nat.lt_of_le_of_ne hj fun h => ?_
    rw [h] at he; omega
  have ha := ends_at hlt
  have hl3 : (j : Int) < l2.length := by omega
  have hjr : j < (rowsI64 (endsF 0 l2)).length := by rw [rowsI64_len, hel]; exact hlt
  have ha' : (rowsI64 (endsF 0 l2))[j]'hjr = [.int .i64 (endB l2 (j + 1) : Nat)] := by
    rw [List.getElem?_eq_getElem hjr] at ha
    exact Option.some.inj ha
  have z1 : wrp .i64 ((j : Int) + 1) = j + 1 := wrp_i64 (by omega)
  simp [W.m5l15, W.m5r13, W.m5r14, hel, hlt, hl3, iaddr_is, ha', d1, wp, z1]
  exact ⟨fun h => ⟨l2.length - (j + 1), by omega, j + 1, rfl, by omega, by omega, by omega⟩, fun h => hk j hlt he (by omega) _⟩
end Go.Ab.Try.S

/- The end of JournalBits. Conditions: none. -/
namespace Go.Ab.Try.S
open Go.Proofs

theorem bits_end {l2 : List Rcd} {k : Nat} {e : Nat} {Q : Ex → Env → Heap → Prop} {σ : Env} (he : e = 5 ∨ e = 11) (hkl : k ≤ l2.length) (hlt : (l2.take k).length < 9223372036854775807)
    (g0 : σ.get 0 = .islice (recRows l2)) (g10 : σ.get 10 = .int .i64 k) (g11 : σ.get 11 = .islice (recRows (l2.take k))) (g12 : σ.get 12 = .int .i64 (endB l2 k : Nat)) (g13 : σ.get 13 = .int .u8 e) (g14 : σ.get 14 = .int .i64 (endB l2 k : Nat)) (hQ : Q .normal [(4, .bool true)] []) :
    wpC (Spec Try.prog) [] (.region W.m5r20 [4]) σ [] Q := by
  have hrt : (recRows l2).take k = recRows (l2.take k) := by simp [recRows, List.map_take]
  simp [W.m5r20, hkl, hrt, g0, g10, g11, g12, g13, g14]
  refine ⟨recRows_row l2, ?_⟩
  refine vc_call ((same19 (l2.take k) (l2.take k) hlt).frame (Cls.cons (cl_plain (recRows_plain _)) (Cls.cons (cl_plain (recRows_plain _)) .nil)) .bool _) ?_
  rcases he with rfl | rfl
  · simp [g13]
    refine vc_call (lives11 _) ?_
    simp
    exact hQ
  · simp [g13]
    refine vc_call (lives11 _) ?_
    simp
    exact hQ

def m5end : MCode := .seq (.seq (.region W.m5r18 [0, 6, 10, 11, 12, 13, 14, 69])
  (.cond (.tmp 69)
  (.region W.m5r19 [0, 10, 11, 12, 13, 14])
  .skip))
  (.seq (.region W.m5r20 [4])
  .ret)

theorem bits_pick {l2 : List Rcd} {k : Nat} {e : Nat} {Q : Ex → Env → Heap → Prop} (he : e = 5 ∨ e = 11) (hkl : k ≤ l2.length) (hl : l2.length ≤ 20) (hQ : Q .ret [(4, .bool true)] []) :
    wpC (Spec Try.prog) [] m5end [(0, .islice (recRows l2)), (6, .islice (rowsI64 (endsF 0 l2))), (10, .int .i64 k), (11, .islice (recRows (l2.take k))), (12, .int .i64 (endB l2 k : Nat)), (13, .int .u8 e), (14, .int .i64 0)] [] Q := by
  have hel := endsF_len l2 0
  have hlt : (l2.take k).length < 9223372036854775807 := by rw [List.length_take]; omega
  rw [m5end, wpC_seq, wpC_seq]
  rw [wpC_region]
  simp only [W.m5r18, wpOps_n, wpOps_nil, wpOp_mv, putK_eq, ev_tmp, get_cons, put_some, if_true, wpOp_bin, bin_gtr, ev_lit, W_some, regK_eq, keep_cons, keep_nil, seqK_n, wpC_cond, condK_bool, if_false, Nat.reduceEqDiff]
  refine ⟨fun h0 => ?_, fun h0 => ?_⟩
  · have h0 : 0 < k := by simpa using h0
    obtain ⟨j, rfl⟩ : ∃ j, k = j + 1 := ⟨k - 1, by omega⟩
    have hjr : j < (rowsI64 (endsF 0 l2)).length := by rw [rowsI64_len, hel]; omega
    have z1 : wrp .i64 (j : Int) = j := wrp_i64 (by omega)
    have hl3 : (j : Int) < l2.length := by omega
    rw [wpC_region]
    simp [W.m5r19, z1, hel, hl3, iaddr_is, ends_at (l := l2) (j := j) (by omega), -wpC_region]
    exact bits_end he hkl hlt rfl rfl rfl rfl rfl rfl (by simpa using hQ)
  · have h0 : k = 0 := by simpa using h0
    have e0 : endB l2 k = 0 := by rw [h0]; simp [endB, jrnB, jrnF]
    rw [wpC_skip, seqK_n, wpC_seq]
    exact bits_end he hkl hlt rfl rfl rfl rfl rfl (by simp [e0]) (by simpa using hQ)
end Go.Ab.Try.S

/- JournalBits: the law's function returns true. Conditions: none. (Under way.) -/
namespace Go.Ab.Try.S
open Go.Proofs

theorem flip_all : ∀ y : _root_.Fin 256, ∀ q : _root_.Fin 8, let z : Int := ((toU .u8 (y.val : Int) ^^^ toU .u8 (wrp .u8 ((2 : Int) ^ min q.val (bitsOf .u8))) : Nat) : Int) % 256; z.toNat < 256 ∧ (z.toNat : Int) = z ∧ z.toNat ≠ y.val := by decide +kernel

theorem flip_u8 (y : UInt8) {q : Nat} (hq : q < 8) : ∃ x : UInt8, ((x.toNat : Nat) : Int) = ((toU .u8 (y.toNat : Int) ^^^ toU .u8 (wrp .u8 (2 ^ min q (bitsOf .u8))) : Nat) : Int) % 256 ∧ x ≠ y := by
  have hf := flip_all ⟨y.toNat, y.toNat_lt⟩ ⟨q, hq⟩
  simp only at hf
  obtain ⟨f1, f2, f3⟩ := hf
  refine ⟨UInt8.ofNat (((toU .u8 (y.toNat : Int) ^^^ toU .u8 (wrp .u8 (2 ^ min q (bitsOf .u8))) : Nat) : Int) % 256).toNat, ?_, fun h => f3 ?_⟩
  · rw [UInt8.toNat_ofNat_of_lt' f1]; exact f2
  · have h2 := congrArg UInt8.toNat h
    rw [UInt8.toNat_ofNat_of_lt' f1] at h2
    exact h2

theorem law5 (l : List Rcd) (bit : Nat) (hl : l.length ≤ 9223372036854775807) (hc : bit < 65536) : Spec Try.prog 5 [.islice (recRows l), .int .u16 bit] [] (.bool true) [] := by
  obtain ⟨h20, h200⟩ := fewF_ok l [] (by simp) (by simp)
  obtain ⟨l2, hl2⟩ : ∃ l2, l2 = fewB l := ⟨_, rfl⟩
  have h20 : l2.length ≤ 20 := by rw [hl2]; exact h20
  have h200 : ∀ r ∈ l2, r.2.length ≤ 200 := by rw [hl2]; exact h200
  have hjl := jrn_le l2 0 h200
  obtain ⟨jb, hjb⟩ : ∃ jb, jb = jrnB l2 := ⟨_, rfl⟩
  have hjl : jb.length ≤ 4280 := by rw [hjb]; exact Nat.le_trans hjl (by omega)
  refine spec_of_wp (C := Spec Try.prog) (fun _ _ _ _ _ h => h) mixed W.m5_ok (show 2 ≤ _ by decide) ?_
  unfold W.m5
  simp [W.m5r0, W.m5r1, envOf]
  refine vc_call ((few16 l hl).frame (Cls.cons (cl_plain (recRows_plain l)) .nil) (cl_plain (recRows_plain _)) _) ?_
  rw [← hl2]
  simp [W.m5r2]
  refine vc_call ((write17 l2 h20 h200).frame (Cls.cons (cl_plain (recRows_plain l2)) .nil) (cl_writeV l2) _) ?_
  unfold writeV
  rw [← hjb]
  simp [W.m5r3, W.m5r5, W.m5r6, logV]
  refine ⟨fun h => ?_, fun h => ?_⟩
  · refine vc_call (lives11 _) ?_
    simp
    exact fin_bool rfl
  have w1 : wrp .i64 (bit : Int) = bit := wrp_i64 (by omega)
  have w2 : wrp .i64 (8 * (jb.length : Int)) = 8 * (jb.length : Int) := wrp_i64 (by omega)
  simp [W.m5r7, W.m5r8, w1, w2]
  have hj0 : jb ≠ [] := by
    intro h0
    rw [h0] at hjb
    cases l2 with
    | nil => exact h rfl
    | cons r t =>
      have := congrArg List.length hjb
      simp only [jrnB, jrnF, List.length_append, enc_len, List.length_nil] at this
      omega
  have hpos := List.length_pos_iff.2 hj0
  obtain ⟨at', hat, w3⟩ : ∃ a : Nat, a < 8 * jb.length ∧ (bit : Int).tmod (8 * (jb.length : Int)) = a := by
    refine ⟨bit % (8 * jb.length), Nat.mod_lt _ (by omega), ?_⟩
    rw [Int.tmod_eq_emod_of_nonneg (by omega)]
    simp
  rw [w3]
  refine ⟨hj0, ?_⟩
  clear w1 w2 w3
  simp [W.m5r9]
  refine W_app_nil (b := jb) rfl (by simp [roomB]; omega) fun c H' hacc => ?_
  rcases hacc with ⟨h5, _, _⟩ | ⟨g, rfl, rfl⟩
  · have := congrArg List.length h5; simp at this; exact absurd this hj0
  obtain ⟨p, q, hp, hq, hpq, d1, d2⟩ : ∃ p q : Nat, p < jb.length ∧ q < 8 ∧ p = at' / 8 ∧ (at' : Int).tdiv 8 = p ∧ (at' : Int).tmod 8 = q := by
    refine ⟨at' / 8, at' % 8, by omega, by omega, rfl, ?_, ?_⟩
    · rw [Int.tdiv_eq_ediv_of_nonneg (by omega)]; simp
    · rw [Int.tmod_eq_emod_of_nonneg (by omega)]; simp
  have hpl : (p : Int) < jb.length := by omega
  have hg := get_u8 hp
  have wp : wrp .i64 (p : Int) = p := wrp_i64 (by omega)
  simp [W.m5r10, W.m5r11, d1, d2, iaddr_sl, hpl, hg, wp]
  obtain ⟨x, hx1, hx2⟩ := flip_u8 (jb[p]?.getD 0) hq
  rw [← hx1]
  have eset : (rowsU8 jb).set p [.int .u8 (x.toNat : Nat)] = rowsU8 (jb.set p x) := by simp [rowsU8, List.map_set]
  rw [eset]
  refine vc_conv (σ' := [(0, .islice (recRows l2)), (6, .islice (rowsI64 (endsF 0 l2))), (8, .int .i64 at'), (9, .islice (rowsU8 (jb.set p x)))]) (conv_drop ?_) ?_
  · simp
    exact ⟨.refl (cl_plain (recRows_plain l2)), .refl (cl_plain (rowsI64_plain _)), .refl .int, freeze_all rfl (by simp) (by simp) (rowsU8_row _) (rowsU8_plain _)⟩
  simp [W.m5r12]
  have hjl2 : endB l2 l2.length = jb.length := by unfold endB; rw [List.take_length, hjb]
  have hxj : x ≠ jb[p] := by
    rw [List.getElem?_eq_getElem hp] at hx2
    exact hx2
  refine bits_loop d1 wp (by rw [hjl2]; exact hp) h20 (fun k hk h1 h2 y => ?_)
  subst hjb
  obtain ⟨e, he, hsc⟩ := scan_flip (x := x) h20 h200 hk h1 h2 hp hxj
  clear hx1 hx2 wp d1 d2 eset
  simp [W.m5r16]
  refine vc_call ((scan18 ((jrnB l2).set p x) (by rw [List.length_set]; omega)).frame (Cls.cons (cl_plain (rowsU8_plain _)) .nil) (cl_scanV _) _) ?_
  rw [hsc]
  simp [W.m5r17]
  have hkl : k ≤ l2.length := by omega
  have hp := bits_pick (l2 := l2) (Q := fun e σ H1 => (e = Ex.normal ∨ e = Ex.ret) ∧ Fin [] (σ.get 4) H1 (AV.bool true) []) he hkl h20 ⟨.inr rfl, fin_bool rfl⟩
  rw [m5end, wpC_seq, wpC_seq, wpC_region] at hp
  exact hp
end Go.Ab.Try.S
