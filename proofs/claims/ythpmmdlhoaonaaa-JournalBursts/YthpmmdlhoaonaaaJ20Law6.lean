/- JournalBursts: the law's function returns true. Conditions: none. -/
import Derived.Test.YthpmmdlhoaonaaaJ20Burst6
import Derived.Test.YthpmmdlhoaonaaaJ20Bits6
namespace Go.Ab.Try.S
open Go.Proofs
attribute [local irreducible] wrp toU

def m6end : MCode := .seq (.seq (.region W.m6r24 [0, 10, 12, 19, 20, 21, 121])
  (.cond (.tmp 121)
  (.seq (.region W.m6r25 [8])
  .ret)
  .skip))
  (.seq (.dregion W.m6r26 W.m6r27 [] [8])
  .ret)

theorem burst_end0 {σ : Env} {Q : Ex → Env → Heap → Prop} (g16 : σ.get 16 = .bool false) (g21 : σ.get 21 = .int .u8 0) (hQ : Q .ret [(8, .bool true)] []) : wpC (Spec Try.prog) [] m6end σ [] Q := by
  simp [m6end, W.m6r24, W.m6r25, g16, g21]
  refine vc_call (lives11 _) ?_
  simp
  exact hQ

theorem sub14 {a b : Nat} (h : a ≤ 10000) (hb : b ≤ 200) : wrp .i64 ((a : Int) + 14 + b - 14) = (a : Int) + b ∧ wrp .i64 (a : Int) = a :=
  ⟨by rw [wrp_i64 (by omega)]; omega, wrp_i64 (by omega)⟩

theorem burst_end1 {l2 : List Rcd} {k : Nat} {σ : Env} {Q : Ex → Env → Heap → Prop} (h20 : l2.length ≤ 20) (h200 : ∀ r ∈ l2, r.2.length ≤ 200) (hk : k < l2.length) (hE : endB l2 k ≤ 10000) (g0 : σ.get 0 = .islice (recRows l2)) (g10 : σ.get 10 = .islice (rowsI64 (endsF 0 l2))) (g12 : σ.get 12 = .int .i64 k)
    (g16 : σ.get 16 = .bool true) (g19 : σ.get 19 = .islice (recRows (l2.take k))) (g20 : σ.get 20 = .int .i64 (endB l2 k : Nat)) (g21 : σ.get 21 = .int .u8 11) (hQ : Q .ret [(8, .bool true)] []) : wpC (Spec Try.prog) [] m6end σ [] Q := by
  have hel := endsF_len l2 0
  have hrt : (recRows l2).take k = recRows (l2.take k) := by simp [recRows, List.map_take]
  have hlt : (l2.take k).length < 9223372036854775807 := by rw [List.length_take]; omega
  have hk2 : (k : Int) < l2.length := by omega
  have hk3 : k ≤ l2.length := by omega
  have hkr : (recRows l2)[k]? = some (recV l2[k].1 l2[k].2) := by simp [recRows, hk]
  have hdk := h200 _ (List.getElem_mem hk)
  obtain ⟨s1, s2⟩ := sub14 hE hdk
  have ha := ends_at hk
  rw [endB_succ hk] at ha
  simp [m6end, W.m6r24, W.m6r26, W.m6r27, g0, g10, g12, g16, g19, g20, g21, iaddr_is, hel, hk2, hk3, ha, hkr, recV, hrt, s1, s2]
  refine ⟨recRows_row l2, ?_⟩
  refine vc_call ((same19 (l2.take k) (l2.take k) hlt).frame (Cls.cons (cl_plain (recRows_plain _)) (Cls.cons (cl_plain (recRows_plain _)) .nil)) .bool _) ?_
  simp
  refine vc_call (lives11 _) ?_
  simp
  exact hQ

theorem scan_whole {l : List Rcd} (hl : l.length ≤ 20) (hd : ∀ r ∈ l, r.2.length ≤ 200) : ∃ m n, scanV (jrnB l) = .tup [.islice (recRows m), .int .i64 n, .int .u8 0] := by
  have h := scan_at (l := l) (s := (jrnB l).length) (j := l.length) hl hd (Nat.le_refl _) (Nat.le_refl _) (by unfold endB; rw [List.take_length]; exact Nat.le_refl _) (fun h => absurd h (Nat.lt_irrefl _))
  rw [List.take_length] at h
  have e : (jrnB l).length = endB l l.length := by unfold endB; rw [List.take_length]
  rw [if_pos e] at h
  exact ⟨_, _, h⟩

theorem jrn_ne {l : List Rcd} {k : Nat} (h : k < l.length) : jrnB l ≠ [] := by
  intro h0
  have := congrArg List.length (jrn_data h)
  rw [h0, List.length_append, preB_len, List.length_nil] at this
  omega
theorem from_ok {a b : Nat} (h : a ≤ 10000) (hb : b ≤ 200) : wrp .i64 ((a : Int) + 14 + b - 4) = (a : Int) + 10 + b ∧ wrp .i64 ((a : Int) + 10) = (a : Int) + 10 :=
  ⟨by rw [wrp_i64 (by omega)]; omega, wrp_i64 (by omega)⟩

theorem law6 (l : List Rcd) (which place change : Nat) (hl : l.length ≤ 9223372036854775807) (hw : which < 65536) (hpl : place < 65536) (hc : change < 4294967296) : Spec Try.prog 6 [.islice (recRows l), .int .u16 which, .int .u16 place, .int .u32 change] [] (.bool true) [] := by
  obtain ⟨h20, h200⟩ := fewF_ok l [] (by simp) (by simp)
  obtain ⟨l2, hl2⟩ : ∃ l2, l2 = fewB l := ⟨_, rfl⟩
  have h20 : l2.length ≤ 20 := by rw [hl2]; exact h20
  have h200 : ∀ r ∈ l2, r.2.length ≤ 200 := by rw [hl2]; exact h200
  have hjl := jrn_le l2 0 h200
  obtain ⟨jb, hjb⟩ : ∃ jb, jb = jrnB l2 := ⟨_, rfl⟩
  have hjl : jb.length ≤ 4280 := by rw [hjb]; exact Nat.le_trans hjl (by omega)
  refine spec_of_wp (C := Spec Try.prog) (fun _ _ _ _ _ h => h) mixed W.m6_ok (show 4 ≤ _ by decide) ?_
  unfold W.m6
  simp [W.m6r0, W.m6r1, envOf]
  refine vc_call ((few16 l hl).frame (Cls.cons (cl_plain (recRows_plain l)) .nil) (cl_plain (recRows_plain _)) _) ?_
  rw [← hl2]
  simp [W.m6r2]
  refine vc_call ((write17 l2 h20 h200).frame (Cls.cons (cl_plain (recRows_plain l2)) .nil) (cl_writeV l2) _) ?_
  unfold writeV
  rw [← hjb]
  by_cases h0 : l2 = []
  · simp [W.m6r3, W.m6r5, W.m6r6, logV, h0]
    refine vc_call (lives11 _) ?_
    simp
    exact fin_bool rfl
  have hlp := List.length_pos_iff.2 h0
  have w1 : wrp .i64 (which : Int) = which := wrp_i64 (by omega)
  obtain ⟨k, hk, w2⟩ : ∃ k : Nat, k < l2.length ∧ (which : Int).tmod (l2.length : Int) = k := by
    refine ⟨which % l2.length, Nat.mod_lt _ hlp, ?_⟩
    rw [Int.tmod_eq_emod_of_nonneg (by omega)]
    simp
  have hkr : (recRows l2)[k]? = some (recV l2[k].1 l2[k].2) := by simp [recRows, hk]
  have hk2 : (k : Int) < l2.length := by omega
  simp [W.m6r3, W.m6r5, W.m6r6, W.m6r7, W.m6r8, logV, h0, w1, w2, iaddr_is, hk2, hkr, recV]
  refine ⟨fun _ => ?_, fun hd0 => ?_⟩
  · refine vc_call (lives11 _) ?_
    simp
    exact fin_bool rfl
  have hdp := List.length_pos_iff.2 hd0
  have hdk := h200 _ (List.getElem_mem hk)
  have hel := endsF_len l2 0
  have hjl2 : endB l2 l2.length = jb.length := by unfold endB; rw [List.take_length, hjb]
  have hEk : endB l2 k ≤ jb.length := by rw [← hjl2]; exact endB_mono (by omega) (Nat.le_refl _)
  have ha := ends_at hk
  rw [endB_succ hk] at ha
  have w3 : wrp .i64 (8 * (l2[k].2.length : Int)) = 8 * (l2[k].2.length : Int) := wrp_i64 (by omega)
  obtain ⟨w4, w5⟩ := from_ok (a := endB l2 k) (b := l2[k].2.length) (Nat.le_trans hEk (Nat.le_trans hjl (by decide))) hdk
  simp [W.m6r9, W.m6r10, W.m6r11, W.m6r12, iaddr_is, hel, hk2, ha, hkr, recV, w3, w4, w5]
  have hj0 := jrn_ne hk
  rw [← hjb] at hj0
  refine W_app_nil (b := jb) rfl (Nat.le_trans hjl (by decide)) fun c H' hacc => ?_
  rcases hacc with ⟨h5, _, _⟩ | ⟨g, rfl, rfl⟩
  · have := congrArg List.length h5; simp at this; exact absurd this hj0
  simp [W.m6r13, W.m6r14]
  have hjd : jb = preB l2 k hk ++ (l2[k].2 ++ postB l2 k hk) := by rw [hjb]; exact jrn_data hk
  have hjn : jb.length = (preB l2 k hk).length + (l2[k].2.length + (postB l2 k hk).length) := by rw [hjd]; simp only [List.length_append]
  have hloop := fun K => burst_loop (l2 := l2) (k := k) (o := place % (8 * l2[k].2.length)) (place := place) (change := change) (g := g) (n1 := jb.length) (pre := preB l2 k hk) (d := l2[k].2) (post := postB l2 k hk) (L0 := .rows 0 3 [[.islice (rowsU8 jb), .int .i64 0, .int .i64 (l2.length : Nat)]]) (K := K) hdp hdk rfl hpl hc hjn (Nat.le_trans hjl (by decide))
  simp only [burstS, preB_len, ← hjd, Int.natCast_add, Int.cast_ofNat_Int] at hloop
  refine hloop _ fun d' w ch x hdl hx hW h1 h2 => ?_
  clear hloop w1 w2 w3 w4 w5
  have hbl : (preB l2 k hk ++ (d' ++ postB l2 k hk)).length < 9223372036854775807 := by
    simp only [List.length_append, hdl]
    rw [hjn] at hjl
    omega
  simp only [blkK_e, if_true, seqK_n, wpC_seq]
  refine vc_conv (σ' := [(0, .islice (recRows l2)), (10, .islice (rowsI64 (endsF 0 l2))), (12, .int .i64 k), (15, .islice (rowsU8 (preB l2 k hk ++ (d' ++ postB l2 k hk)))), (16, .bool ch)]) (conv_drop ?_) ?_
  · have hlen : jb.length = (rowsU8 (preB l2 k hk ++ (d' ++ postB l2 k hk))).length := by
      rw [rowsU8_len]; simp only [List.length_append, hdl]; exact hjn
    simp
    exact ⟨.refl (cl_plain (recRows_plain l2)), .refl (cl_plain (rowsI64_plain _)), .refl .int, freeze_all rfl (by simp) (by rw [hlen]) (rowsU8_row _) (rowsU8_plain _), .refl .bool⟩
  have hsc := (scan18 (preB l2 k hk ++ (d' ++ postB l2 k hk)) hbl).frame (Cls.cons (cl_plain (rowsU8_plain _)) .nil) (cl_scanV _)
  simp [W.m6r23]
  refine vc_call (hsc _) ?_
  cases ch with
  | false =>
    obtain ⟨m, n, hs⟩ := scan_whole h20 h200
    rw [h2 rfl, ← jrn_data hk, hs]
    simp
    have hp := burst_end0 (σ := [(0, .islice (recRows l2)), (10, .islice (rowsI64 (endsF 0 l2))), (12, .int .i64 k), (16, .bool false), (19, .islice (recRows m)), (20, .int .i64 n), (21, .int .u8 0)]) (Q := fun e σ H1 => (e = Ex.normal ∨ e = Ex.ret) ∧ Fin [] (σ.get 8) H1 (AV.bool true) []) rfl rfl ⟨.inr rfl, fin_bool rfl⟩
    rw [m6end, wpC_seq, wpC_seq, wpC_region] at hp
    exact hp
  | true =>
    rw [scan_burst h20 h200 hk hdl hx hW (h1 rfl) (Nat.le_of_lt (Nat.mod_lt _ (by omega)))]
    simp
    have hp := burst_end1 (σ := [(0, .islice (recRows l2)), (10, .islice (rowsI64 (endsF 0 l2))), (12, .int .i64 k), (16, .bool true), (19, .islice (recRows (l2.take k))), (20, .int .i64 (endB l2 k : Nat)), (21, .int .u8 11)]) (Q := fun e σ H1 => (e = Ex.normal ∨ e = Ex.ret) ∧ Fin [] (σ.get 8) H1 (AV.bool true) []) h20 h200 hk (Nat.le_trans hEk (Nat.le_trans hjl (by decide))) rfl rfl rfl rfl rfl rfl rfl ⟨.inr rfl, fin_bool rfl⟩
    rw [m6end, wpC_seq, wpC_seq, wpC_region] at hp
    exact hp
end Go.Ab.Try.S
