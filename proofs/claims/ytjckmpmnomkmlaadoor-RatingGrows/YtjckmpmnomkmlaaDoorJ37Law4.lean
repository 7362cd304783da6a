/- RatingGrows, as a contract. Conditions: none. -/
import Derived.Test.YtjckmpmnomkmlaaDoorJ37Plain
import Derived.Test.YtjckmpmnomkmlaaDoorJ37Few
namespace Go.Ab.Tryd.S
open Go.Proofs

theorem cl_cost' (c : Int × Int) : Cl 0 (costA c) := (Cls.cons .int (Cls.cons .int .nil)).tup
theorem secs_val {fr : Int} (h : 0 ≤ fr ∧ fr ≤ 281474966710656) {n : Int} (hn : 0 ≤ n ∧ n < 5000) :
    (spanB fr (fr + 1000 * n) = true ∧ secsF fr (fr + 1000 * n) = n) ∧ (spanB fr (fr + 1000 * n + 1) = true ∧ secsF fr (fr + 1000 * n + 1) = n + 1) ∧ (spanB fr (fr + 1000 * n + 1000) = true ∧ secsF fr (fr + 1000 * n + 1000) = n + 1) := by
  have h1 : spanB fr (fr + 1000 * n) = true := by unfold spanB; simp; omega
  have h2 : spanB fr (fr + 1000 * n + 1) = true := by unfold spanB; simp; omega
  have h3 : spanB fr (fr + 1000 * n + 1000) = true := by unfold spanB; simp; omega
  refine ⟨⟨h1, ?_⟩, ⟨h2, ?_⟩, ⟨h3, ?_⟩⟩
  · unfold secsF; rw [if_pos h1]; omega
  · unfold secsF; rw [if_pos h2]; omega
  · unfold secsF; rw [if_pos h3]; omega
theorem call_rng {r : Rt} (hv : rateB r = true) {free fr s : Int} (hf : 0 ≤ free) (hs : s ≤ 1000000) : 0 ≤ callF r free fr s ∧ callF r free fr s ≤ 1000000000 * 1000002 := by
  obtain ⟨_, h1, h2, _⟩ := rate_parts hv
  unfold callF
  split
  · omega
  · have hp := pieces_ge (r := r) (free := free) (s := s) h2.1
    have hc := cost_rng hv free fr (piecesF r free s).toNat
    have hle : piecesF r free s ≤ 1000000 := by
      by_cases h : 1000000 < piecesF r free s
      · have a1 := begF_pieces (r := r) (free := free) (s := s) h1.1 h2.1 (k := 1000000) (by omega)
        have a2 := begF_ge (r := r) (free := free) h1.1 h2.1 hf 1000000
        omega
      · omega
    omega

theorem law4 (t : Tf) (ht : TfOk t) (num : List UInt8) (fr : Int) (sec : Nat) (hsec : sec < 65536) : Spec Tryd.prog 4 [.agg t.row, .str num, .int .i64 fr, .int .u16 sec] [] (.bool true) [] := by
  refine spec_of_wp (C := Spec Tryd.prog) (fun _ _ _ _ _ h => h) mixed m4_ok (show 4 ≤ _ by decide) ?_
  unfold m4
  have z0 : FI (wrp .i64 (sec : Int)) sec := fi64 (by omega)
  obtain ⟨n, hn⟩ : ∃ n : Nat, n = sec % 5000 := ⟨_, rfl⟩
  have hn5 : n < 5000 := by omega
  have z1 : FI ((sec : Int).tmod 5000) n := ⟨by rw [Int.tmod_eq_emod_of_nonneg (by omega)]; omega⟩
  simp [m4r0, envOf, m4r1, z0.o, z1.o, m4r2]
  refine vc_call ((few10 t).frame (Cls.cons (cl_tf _) .nil) .bool _) ?_
  cases hfew : fewB t with
  | false =>
    simp [m4r3]
    refine vc_call (lives11 _) ?_
    simp
    exact fin_bool rfl
  | true =>
  have hs := few_sm hfew
  simp
  refine vc_call ((valid14 t hs).frame (Cls.cons (cl_tf _) .nil) .bool _) ?_
  simp +contextual [-condK_bool]
  refine condK_of (y := !validB t || decide (fr < 0) || decide (281474966710656 < fr)) (by simp) (fun h => ?_) (fun h => ?_)
  · simp [m4r3]
    refine vc_call (lives11 _) ?_
    simp
    exact fin_bool rfl
  simp only [Bool.or_eq_false_iff, Bool.not_eq_false', decide_eq_false_iff_not] at h
  obtain ⟨⟨hv, hfr0⟩, hfr1⟩ := h
  have hfr : 0 ≤ fr ∧ fr ≤ 281474966710656 := by omega
  obtain ⟨hf, hrates⟩ := valid_parts hv
  obtain ⟨⟨s1, s2⟩, ⟨s3, s4⟩, s5, s6⟩ := secs_val hfr (n := n) (by omega)
  have z2 : FI (wrp .i64 (1000 * (n : Int))) (1000 * n) := fi64 (by omega)
  have z3 : FI (wrp .i64 (fr + 1000 * (n : Int))) (fr + 1000 * n) := fi64 (by omega)
  have z4 : FI (wrp .i64 (fr + 1000 * (n : Int) + 1)) (fr + 1000 * n + 1) := fi64 (by omega)
  have z5 : FI (wrp .i64 (fr + 1000 * (n : Int) + 1000)) (fr + 1000 * n + 1000) := fi64 (by omega)
  have hcl : ∀ a : Int, ∀ (i : Nat) c, [AV.agg t.row, .str num, .int .i64 fr, .int .i64 a][i]? = some c → Cl 0 c := fun a => Cls.cons (cl_tf _) (Cls.cons .str (Cls.cons .int (Cls.cons .int .nil)))
  simp [m4r4]
  refine vc_call ((find15 t hs num).frame (Cls.cons (cl_tf _) (Cls.cons .str .nil)) (cl_find _ _) _) ?_
  rw [findR, if_pos hv]
  simp [m4r5, z2.o, z3.o]
  refine vc_call ((cost12 t ht hs num fr (fr + 1000 * n)).frame (hcl _) (cl_cost' _) _) ?_
  by_cases hF : findF num t.rs < 0
  · have hF' : ¬ 0 ≤ findF num t.rs := by omega
    rw [costV_4 hv s1 (by omega) hF]
    simp [costA, m4r6, z2.o, z3.o, z4.o]
    refine vc_call ((cost12 t ht hs num fr (fr + 1000 * n + 1)).frame (hcl _) (cl_cost' _) _) ?_
    rw [costV_4 hv s3 (by omega) hF]
    simp [costA, m4r7, z2.o, z3.o, z5.o]
    refine vc_call ((cost12 t ht hs num fr (fr + 1000 * n + 1000)).frame (hcl _) (cl_cost' _) _) ?_
    rw [costV_4 hv s5 (by omega) hF]
    simp [costA, m4r8, hF, hF', m4r9]
    refine vc_call (lives11 _) ?_
    simp
    exact fin_bool rfl
  obtain ⟨i, hi, he, _⟩ := find_at num t.rs hF
  have hi2 : (i : Int) < t.rs.length := by omega
  obtain ⟨r, hr⟩ : ∃ r, r = t.rs[i] := ⟨_, rfl⟩
  have hmem : r ∈ t.rs := by rw [hr]; exact List.getElem_mem hi
  have hget : t.rs[i]? = some r := by rw [List.getElem?_eq_getElem hi, hr]
  have hrok := ht.rs r hmem
  have hrv := hrates r hmem
  have hsm := hs.r r hmem
  obtain ⟨p0, p1, p2, p3, _⟩ := rate_parts hrv
  have hmax : max (i : Int) 0 = i := by omega
  have ec := call_more p1.1 p2.1 t.free fr n
  have r1 := call_rng hrv (fr := fr) (s := n) hf.1 (by omega)
  have r2 := call_rng hrv (fr := fr) (s := (n : Int) + 1) hf.1 (by omega)
  rw [he, hmax, costV_5 hv s1 (by omega) he hget, costT_call, s2]
  simp [costA, m4r6, z2.o, z3.o, z4.o]
  refine vc_call ((cost12 t ht hs num fr (fr + 1000 * n + 1)).frame (hcl _) (cl_cost' _) _) ?_
  rw [costV_5 hv s3 (by omega) he hget, costT_call, s4]
  simp [costA, m4r7, z2.o, z3.o, z5.o]
  refine vc_call ((cost12 t ht hs num fr (fr + 1000 * n + 1000)).frame (hcl _) (cl_cost' _) _) ?_
  rw [costV_5 hv s5 (by omega) he hget, costT_call, s6]
  obtain ⟨q, hq, hq1, hq2⟩ := price_at hrv (fr + 1000 * n)
  have hq3 : (q : Int) < r.ps.length := by omega
  have hpr2 : priceR r (fr + 1000 * n) = .tup [.int .i64 q, .bool true] := by
    unfold priceR atB
    rw [if_neg, hq1]
    simp [hrv]
    omega
  obtain ⟨p, hp⟩ : ∃ p, p = r.ps[q] := ⟨_, rfl⟩
  rw [← hp] at hq2
  have hrng := price_rng hrv (fr + 1000 * n)
  rw [hq2] at hrng
  have z6 : FI (wrp .i64 ((n : Int) - t.free)) (n - t.free) := fi64 (by omega)
  have z7 : FI (wrp .i64 ((n : Int) - t.free - r.fi)) (n - t.free - r.fi) := fi64 (by omega)
  have z8 : FI (wrp .i64 (r.con + p.fi)) (r.con + p.fi) := fi64 (by omega)
  obtain ⟨a, ha⟩ : ∃ a, a = callF r t.free fr n := ⟨_, rfl⟩
  obtain ⟨b, hb⟩ : ∃ b, b = callF r t.free fr (n + 1) := ⟨_, rfl⟩
  rw [← ha] at ec r1
  rw [← hb] at ec r2
  rw [← ha, ← hb]
  have tail : ∀ (m : Int) (J : Heap) (σ : Env), σ.get 12 = .int .i64 a → σ.get 13 = .int .u8 0 → σ.get 14 = .int .i64 b → σ.get 15 = .int .u8 0 → σ.get 16 = .int .i64 b → σ.get 17 = .int .u8 0 → σ.get 19 = .int .i64 m → b = a + m →
      wpOps (Spec Tryd.prog) m4r24 σ J (regK [8] (seqK (Spec Tryd.prog) [] .ret fun e σ H1 => (e = .normal ∨ e = .ret) ∧ Fin [] (σ.get 8) H1 (.bool true) [])) := by
    intro m J σ g12 g13 g14 g15 g16 g17 g19 hm
    have z : FI (wrp .i64 (a + m)) b := ⟨by rw [wrp_i64 (by omega), hm]⟩
    simp [m4r24, z.o, g12, g13, g14, g15, g16, g17, g19]
    refine vc_call (lives11 _) ?_
    simp
    exact fin_bool rfl
  simp [costA, m4r8, m4r10, Tf.row, iaddr_is, hi, hi2, ← hr, Rt.row, m4r11, m4r12, z6.o, z7.o, m4r13, z2.o, z3.o]
  refine vc_call ((price16 r hrok hsm.1 hsm.2 (fr + 1000 * n)).frame (Cls.cons (cl_rt _) (Cls.cons .int .nil)) ?_ _) ?_
  · unfold priceR
    split
    · exact (Cls.cons .int (Cls.cons .bool .nil)).tup
    · exact (Cls.cons .int (Cls.cons .bool .nil)).tup
  rw [hpr2]
  simp [m4r14]
  unfold moreF at ec
  rw [hq2] at ec
  refine ⟨fun h0 => ?_, fun h0 => ?_⟩
  · rw [if_pos h0] at ec
    simp [m4r15, m4r16, m4r17, m4r18, m4r19, m4r20, m4r21, iaddr_is, hq, hq3, ← hp, Pr.row, z8.o]
    exact tail _ _ _ rfl rfl rfl rfl rfl rfl rfl ec
  rw [if_neg h0] at ec
  have hst0 : ¬ r.st = 0 := by omega
  have z9 : 0 ≤ (n : Int) - t.free - r.fi → ((n : Int) - t.free - r.fi).tmod r.st = ((n : Int) - t.free - r.fi) % r.st := fun h => Int.tmod_eq_emod_of_nonneg h
  simp +contextual [m4r22, hst0, -condK_bool]
  refine condK_of (y := pastB r t.free n) ?_ (fun h => ?_) (fun h => ?_)
  · unfold pastB
    have e : decide (r.fi ≤ (n : Int) - t.free) = decide (0 ≤ (n : Int) - t.free - r.fi) := by rw [decide_eq_decide]; omega
    by_cases hh : 0 ≤ (n : Int) - t.free - r.fi
    · rw [z9 hh, e]
    · rw [e, decide_eq_false hh]; rfl
  · rw [if_pos h] at ec
    simp [m4r23, iaddr_is, hq, hq3, ← hp, Pr.row]
    exact tail _ _ _ rfl rfl rfl rfl rfl rfl rfl ec
  · rw [if_neg (by simp [h])] at ec
    exact tail _ _ _ rfl rfl rfl rfl rfl rfl rfl ec
end Go.Ab.Tryd.S
