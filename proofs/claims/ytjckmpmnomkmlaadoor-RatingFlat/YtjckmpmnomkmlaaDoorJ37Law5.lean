/- RatingGrows, as a contract. Conditions: none. -/
import Derived.Test.YtjckmpmnomkmlaaDoorJ37Plain
import Derived.Test.YtjckmpmnomkmlaaDoorJ37Few
namespace Go.Ab.Tryd.S
open Go.Proofs

theorem cl_cost' (c : Int × Int) : Cl 0 (costA c) := (Cls.cons .int (Cls.cons .int .nil)).tup
theorem secs_val {fr : Int} (h : 0 ≤ fr ∧ fr ≤ 281474966710656) {n : Int} (hn : 0 ≤ n ∧ n < 5000) :
    (spanB fr (fr + 1000 * n) = true ∧ secsF fr (fr + 1000 * n) = n) ∧ (spanB fr (fr + 1000 * n + 1) = true ∧ secsF fr (fr + 1000 * n + 1) = n + 1) ∧ (spanB fr (fr + 1000 * n + 1000) = true ∧ secsF fr (fr + 1000 * n + 1000) = n + 1) := by
  have h1 : spanB fr (fr + 1000 * n) = true := by unfold spanB; simp; omega
  have h2 : spanB fr (fr + 1000 * n + 1) = true := by unfold spanB; simp; omega
  have h3 : spanB fr (fr + 1000 * n + 1000) = true := by unfold spanB; simp; omega
  refine ⟨⟨h1, ?_⟩, ⟨h2, ?_⟩, ⟨h3, ?_⟩⟩
  · unfold secsF; rw [if_pos h1]; omega
  · unfold secsF; rw [if_pos h2]; omega
  · unfold secsF; rw [if_pos h3]; omega
theorem call_rng {r : Rt} (hv : rateB r = true) {free fr s : Int} (hf : 0 ≤ free) (hs : s ≤ 1000000) : 0 ≤ callF r free fr s ∧ callF r free fr s ≤ 1000000000 * 1000002 := by
  obtain ⟨_, h1, h2, _⟩ := rate_parts hv
  unfold callF
  split
  · omega
  · have hp := pieces_ge (r := r) (free := free) (s := s) h2.1
    have hc := cost_rng hv free fr (piecesF r free s).toNat
    have hle : piecesF r free s ≤ 1000000 := by
      by_cases h : 1000000 < piecesF r free s
      · have a1 := begF_pieces (r := r) (free := free) (s := s) h1.1 h2.1 (k := 1000000) (by omega)
        have a2 := begF_ge (r := r) (free := free) h1.1 h2.1 hf 1000000
        omega
      · omega
    omega

theorem law4 (t : Tf) (ht : TfOk t) (num : List UInt8) (fr : Int) (sec : Nat) (hsec : sec < 65536) : Spec Tryd.prog 4 [.agg t.row, .str num, .int .i64 fr, .int .u16 sec] [] (.bool true) [] := by
  refine spec_of_wp (C := Spec Tryd.prog) (fun _ _ _ _ _ h => h) mixed m4_ok (show 4 ≤ _ by decide) ?_
  unfold m4
  have z0 : FI (wrp .i64 (sec : Int)) sec := fi64 (by omega)
  obtain ⟨n, hn⟩ : ∃ n : Nat, n = sec % 5000 := ⟨_, rfl⟩
  have hn5 : n < 5000 := by omega
  have z1 : FI ((sec : Int).tmod 5000) n := ⟨by rw [Int.tmod_eq_emod_of_nonneg (by omega)]; omega⟩
  simp [m4r0, envOf, m4r1, z0.o, z1.o, m4r2]
  refine vc_call ((few10 t).frame (Cls.cons (cl_tf _) .nil) .bool _) ?_
  cases hfew : fewB t with
  | false =>
    simp [m4r3]
    refine vc_call (lives11 _) ?_
    simp
    exact fin_bool rfl
  | true =>
  have hs := few_sm hfew
  simp
  refine vc_call ((valid14 t hs).frame (Cls.cons (cl_tf _) .nil) .bool _) ?_
  simp +contextual [-condK_bool]
  refine condK_of (y := !validB t || decide (fr < 0) || decide (281474966710656 < fr)) (by simp) (fun h => ?_) (fun h => ?_)
  · simp [m4r3]
    refine vc_call (lives11 _) ?_
    simp
    exact fin_bool rfl
  simp only [Bool.or_eq_false_iff, Bool.not_eq_false', decide_eq_false_iff_not] at h
  obtain ⟨⟨hv, hfr0⟩, hfr1⟩ := h
  have hfr : 0 ≤ fr ∧ fr ≤ 281474966710656 := by omega
  obtain ⟨hf, hrates⟩ := valid_parts hv
  obtain ⟨⟨s1, s2⟩, ⟨s3, s4⟩, s5, s6⟩ := secs_val hfr (n := n) (by omega)
  have z2 : FI (wrp .i64 (1000 * (n : Int))) (1000 * n) := fi64 (by omega)
  have z3 : FI (wrp .i64 (fr + 1000 * (n : Int))) (fr + 1000 * n) := fi64 (by omega)
  have z4 : FI (wrp .i64 (fr + 1000 * (n : Int) + 1)) (fr + 1000 * n + 1) := fi64 (by omega)
  have z5 : FI (wrp .i64 (fr + 1000 * (n : Int) + 1000)) (fr + 1000 * n + 1000) := fi64 (by omega)
  have hcl : ∀ a : Int, ∀ (i : Nat) c, [AV.agg t.row, .str num, .int .i64 fr, .int .i64 a][i]? = some c → Cl 0 c := fun a => Cls.cons (cl_tf _) (Cls.cons .str (Cls.cons .int (Cls.cons .int .nil)))
  simp [m4r4]
  refine vc_call ((find15 t hs num).frame (Cls.cons (cl_tf _) (Cls.cons .str .nil)) (cl_find _ _) _) ?_
  rw [findR, if_pos hv]
  simp [m4r5, z2.o, z3.o]
  refine vc_call ((cost12 t ht hs num fr (fr + 1000 * n)).frame (hcl _) (cl_cost' _) _) ?_
  by_cases hF : findF num t.rs < 0
  · have hF' : ¬ 0 ≤ findF num t.rs := by omega
    rw [costV_4 hv s1 (by omega) hF]
    simp [costA, m4r6, z2.o, z3.o, z4.o]
    refine vc_call ((cost12 t ht hs num fr (fr + 1000 * n + 1)).frame (hcl _) (cl_cost' _) _) ?_
    rw [costV_4 hv s3 (by omega) hF]
    simp [costA, m4r7, z2.o, z3.o, z5.o]
    refine vc_call ((cost12 t ht hs num fr (fr + 1000 * n + 1000)).frame (hcl _) (cl_cost' _) _) ?_
    rw [costV_4 hv s5 (by omega) hF]
    simp [costA, m4r8, hF, hF', m4r9]
    refine vc_call (lives11 _) ?_
    simp
    exact fin_bool rfl
  obtain ⟨i, hi, he, _⟩ := find_at num t.rs hF
  have hi2 : (i : Int) < t.rs.length := by omega
  obtain ⟨r, hr⟩ : ∃ r, r = t.rs[i] := ⟨_, rfl⟩
  have hmem : r ∈ t.rs := by rw [hr]; exact List.getElem_mem hi
  have hget : t.rs[i]? = some r := by rw [List.getElem?_eq_getElem hi, hr]
  have hrok := ht.rs r hmem
  have hrv := hrates r hmem
  have hsm := hs.r r hmem
  obtain ⟨p0, p1, p2, p3, _⟩ := rate_parts hrv
  have hmax : max (i : Int) 0 = i := by omega
  have ec := call_more p1.1 p2.1 t.free fr n
  have r1 := call_rng hrv (fr := fr) (s := n) hf.1 (by omega)
  have r2 := call_rng hrv (fr := fr) (s := (n : Int) + 1) hf.1 (by omega)
  rw [he, hmax, costV_5 hv s1 (by omega) he hget, costT_call, s2]
  simp [costA, m4r6, z2.o, z3.o, z4.o]
  refine vc_call ((cost12 t ht hs num fr (fr + 1000 * n + 1)).frame (hcl _) (cl_cost' _) _) ?_
  rw [costV_5 hv s3 (by omega) he hget, costT_call, s4]
  simp [costA, m4r7, z2.o, z3.o, z5.o]
  refine vc_call ((cost12 t ht hs num fr (fr + 1000 * n + 1000)).frame (hcl _) (cl_cost' _) _) ?_
  rw [costV_5 hv s5 (by omega) he hget, costT_call, s6]
  obtain ⟨q, hq, hq1, hq2⟩ := price_at hrv (fr + 1000 * n)
  have hq3 : (q : Int) < r.ps.length := by omega
  have hpr2 : priceR r (fr + 1000 * n) = .tup [.int .i64 q, .bool true] := by
    unfold priceR atB
    rw [if_neg, hq1]
    simp [hrv]
    omega
  obtain ⟨p, hp⟩ : ∃ p, p = r.ps[q] := ⟨_, rfl⟩
  rw [← hp] at hq2
  have hrng := price_rng hrv (fr + 1000 * n)
  rw [hq2] at hrng
  have z6 : FI (wrp .i64 ((n : Int) - t.free)) (n - t.free) := fi64 (by omega)
  have z7 : FI (wrp .i64 ((n : Int) - t.free - r.fi)) (n - t.free - r.fi) := fi64 (by omega)
  have z8 : FI (wrp .i64 (r.con + p.fi)) (r.con + p.fi) := fi64 (by omega)
  obtain ⟨a, ha⟩ : ∃ a, a = callF r t.free fr n := ⟨_, rfl⟩
  obtain ⟨b, hb⟩ : ∃ b, b = callF r t.free fr (n + 1) := ⟨_, rfl⟩
  rw [← ha] at ec r1
  rw [← hb] at ec r2
  rw [← ha, ← hb]
  have tail : ∀ (m : Int) (J : Heap) (σ : Env), σ.get 12 = .int .i64 a → σ.get 13 = .int .u8 0 → σ.get 14 = .int .i64 b → σ.get 15 = .int .u8 0 → σ.get 16 = .int .i64 b → σ.get 17 = .int .u8 0 → σ.get 19 = .int .i64 m → b = a + m →
      wpOps (Spec Tryd.prog) m4r24 σ J (regK [8] (seqK (Spec Tryd.prog) [] .ret fun e σ H1 => (e = .normal ∨ e = .ret) ∧ Fin [] (σ.get 8) H1 (.bool true) [])) := by
    intro m J σ g12 g13 g14 g15 g16 g17 g19 hm
    have z : FI (wrp .i64 (a + m)) b := ⟨by rw [wrp_i64 (by omega), hm]⟩
    simp [m4r24, z.o, g12, g13, g14, g15, g16, g17, g19]
    refine vc_call (lives11 _) ?_
    simp
    exact fin_bool rfl
  simp [costA, m4r8, m4r10, Tf.row, iaddr_is, hi, hi2, ← hr, Rt.row, m4r11, m4r12, z6.o, z7.o, m4r13, z2.o, z3.o]
  refine vc_call ((price16 r hrok hsm.1 hsm.2 (fr + 1000 * n)).frame (Cls.cons (cl_rt _) (Cls.cons .int .nil)) ?_ _) ?_
  · unfold priceR
    split
    · exact (Cls.cons .int (Cls.cons .bool .nil)).tup
    · exact (Cls.cons .int (Cls.cons .bool .nil)).tup
  rw [hpr2]
  simp [m4r14]
  unfold moreF at ec
  rw [hq2] at ec
  refine ⟨fun h0 => ?_, fun h0 => ?_⟩
  · rw [if_pos h0] at ec
    simp [m4r15, m4r16, m4r17, m4r18, m4r19, m4r20, m4r21, iaddr_is, hq, hq3, ← hp, Pr.row, z8.o]
    exact tail _ _ _ rfl rfl rfl rfl rfl rfl rfl ec
  rw [if_neg h0] at ec
  have hst0 : ¬ r.st = 0 := by omega
  have z9 : 0 ≤ (n : Int) - t.free - r.fi → ((n : Int) - t.free - r.fi).tmod r.st = ((n : Int) - t.free - r.fi) % r.st := fun h => Int.tmod_eq_emod_of_nonneg h
  simp +contextual [m4r22, hst0, -condK_bool]
  refine condK_of (y := pastB r t.free n) ?_ (fun h => ?_) (fun h => ?_)
  · unfold pastB
    have e : decide (r.fi ≤ (n : Int) - t.free) = decide (0 ≤ (n : Int) - t.free - r.fi) := by rw [decide_eq_decide]; omega
    by_cases hh : 0 ≤ (n : Int) - t.free - r.fi
    · rw [z9 hh, e]
    · rw [e, decide_eq_false hh]; rfl
  · rw [if_pos h] at ec
    simp [m4r23, iaddr_is, hq, hq3, ← hp, Pr.row]
    exact tail _ _ _ rfl rfl rfl rfl rfl rfl rfl ec
  · rw [if_neg (by simp [h])] at ec
    exact tail _ _ _ rfl rfl rfl rfl rfl rfl rfl ec
end Go.Ab.Tryd.S

/- RatingFlat, as a contract. Conditions: none. -/
namespace Go.Ab.Tryd.S
open Go.Proofs

theorem secs_mul {fr n : Int} (h : 0 ≤ fr) (hn : 0 ≤ n) (hm : fr + 1000 * n ≤ 281474976710656) : spanB fr (fr + 1000 * n) = true ∧ secsF fr (fr + 1000 * n) = n := by
  have h1 : spanB fr (fr + 1000 * n) = true := by unfold spanB; simp; omega
  refine ⟨h1, ?_⟩
  unfold secsF; rw [if_pos h1]; omega
theorem find_one (r : Rt) : findF r.pre [r] = (0 : Nat) := by
  simp [findF, findP, upd, hitB, hasB]

def m5t : MCode :=
  (.seq (.region m5r4 [2, 4, 9, 10])
  (.seq (.seq (.region m5r5 [2, 4, 9, 10, 57])
  (.cond (.tmp 57)
  (.seq (.region m5r6 [8])
  .ret)
  .skip))
  (.seq (.region m5r7 [4, 9, 10, 11, 12])
  (.seq (.region m5r8 [4, 9, 10, 11, 12, 13])
  (.seq (.seq (.region m5r9 [4, 9, 10, 11, 12, 13, 74])
  (.cond (.tmp 74)
  (.seq (.dregion m5r10 m5r11 [m5r12, m5r13, m5r14, m5r15, m5r16, m5r17, [], []] [4, 9, 10, 11, 12, 13])
  (.seq (.region m5r18 [4, 11, 12, 13, 14])
  (.seq (.region m5r19 [4, 11, 12, 13, 14, 91])
  (.cond (.tmp 91)
  (.dregion m5r20 m5r21 [] [11, 12, 13])
  .skip))))
  .skip))
  (.seq (.region m5r22 [8])
  .ret))))))
def Q5 : Ex → Env → Heap → Prop := fun e σ H1 => (e = .normal ∨ e = .ret) ∧ Fin [] (σ.get 8) H1 (.bool true) []

theorem rest5 (r : Rt) (hr : RtOk r) (hlen : r.ps.length ≤ 1 ∨ 40 ≤ r.ps.length) (f sec : Nat) (hf : f < 65536) (hsec : sec < 4294967296) (fr : Int) (σ : Env) (g1 : σ.get 1 = .int .u16 f) (g2 : σ.get 2 = .int .i64 fr) (g3 : σ.get 3 = .int .u32 sec) (g4 : σ.get 4 = .ptr 0 0 0 0) :
    wpC (Spec Tryd.prog) [] (.seq (.region m5r3 [2, 3, 4, 9]) m5t) σ [.rows 0 5 [r.row]] Q5 := by
  unfold m5t
  obtain ⟨n, hn⟩ : ∃ n : Nat, n = sec % 100001 := ⟨_, rfl⟩
  obtain ⟨free, hfree⟩ : ∃ free : Nat, free = f % 3601 := ⟨_, rfl⟩
  have z0 : FI (wrp .i64 (f : Int)) f := fi64 (by omega)
  have z1 : FI ((f : Int).tmod 3601) free := ⟨by rw [Int.tmod_eq_emod_of_nonneg (by omega)]; omega⟩
  have z2 : FI (wrp .i64 (sec : Int)) sec := fi64 (by omega)
  have z3 : FI ((sec : Int).tmod 100001) n := ⟨by rw [Int.tmod_eq_emod_of_nonneg (by omega)]; omega⟩
  obtain ⟨t, ht⟩ : ∃ t : Tf, t = ⟨[r], free⟩ := ⟨_, rfl⟩
  have live : ∀ H, callK (Spec Tryd.prog) 11 [] H fun v H' => H' = H ∧ v = .bool true := fun H => vc_call (lives11 _) ⟨rfl, rfl⟩
  simp [m5r3, g1, g2, g3, g4, z0.o, z1.o, m5r4, z2.o, z3.o, m5r5]
  refine vc_call ((few10 t).lend rfl (by rw [ht]; exact lend_tf1 rfl) .bool) ?_
  cases hfew : fewB t with
  | false =>
    simp [m5r6]
    refine vc_call (lives11 _) ?_
    simp
    exact ⟨.inr rfl, fin_bool rfl⟩
  | true =>
  have hs := few_sm hfew
  simp
  refine vc_call ((valid14 t hs).lend rfl (by rw [ht]; exact lend_tf1 rfl) .bool) ?_
  simp +contextual [-condK_bool]
  refine condK_of (y := !validB t || decide (fr < 0) || decide (281474866710656 < fr)) (by simp) (fun h => ?_) (fun h => ?_)
  · simp [m5r6]
    refine vc_call (lives11 _) ?_
    simp
    exact ⟨.inr rfl, fin_bool rfl⟩
  simp only [Bool.or_eq_false_iff, Bool.not_eq_false', decide_eq_false_iff_not] at h
  obtain ⟨⟨hv, hfr0⟩, hfr1⟩ := h
  obtain ⟨hfv, hrates⟩ := valid_parts hv
  have hrv : rateB r = true := hrates r (by rw [ht]; simp)
  obtain ⟨p0, p1, p2, p3, _⟩ := rate_parts hrv
  have hok : TfOk t := by rw [ht]; exact ⟨fun x hx => by simp at hx; rw [hx]; exact hr, by show I64 (free : Int); unfold I64; omega⟩
  have hl1 : r.ps.length = 1 := by omega
  obtain ⟨p, hp⟩ : ∃ p, p = r.ps[0] := ⟨_, rfl⟩
  have h01 : 0 < r.ps.length := by omega
  have hone : ∀ at_, priceO r at_ = p := fun at_ => by
    obtain ⟨i, hi, _, h3⟩ := price_at hrv at_
    have : i = 0 := by omega
    subst this
    rw [h3, hp]
  have hrng := price_rng hrv fr
  rw [hone] at hrng
  obtain ⟨s1, s2⟩ := secs_mul (fr := fr) (n := n) (by omega) (by omega) (by omega)
  have z4 : FI (wrp .i64 (1000 * (n : Int))) (1000 * n) := fi64 (by omega)
  have z5 : FI (wrp .i64 (fr + 1000 * (n : Int))) (fr + 1000 * n) := fi64 (by omega)
  have hfe : findF r.pre t.rs = (0 : Nat) := by rw [ht]; exact find_one r
  have hc := cost12 t hok hs r.pre fr (fr + 1000 * n)
  rw [costV_5 hv s1 (by omega) hfe (r := r) (by rw [ht]; rfl), costT_call, s2, call_flat p2.1 hone, show t.free = (free : Int) by rw [ht]] at hc
  have hflat := call_rng hrv (free := free) (fr := fr) (s := n) (by omega) (by omega)
  rw [call_flat p2.1 hone] at hflat
  have hw : flatF r p free n = if (n : Int) ≤ free then 0 else if (n : Int) - free - r.fi ≤ 0 then r.con + p.fi else r.con + p.fi + p.st * (((n : Int) - free - r.fi + r.st - 1) / r.st) := rfl
  generalize flatF r p free n = want at *
  simp [m5r7, Rt.row, z4.o, z5.o]
  refine vc_call (hc.lend rfl (by rw [ht]; exact lend_tf4 rfl _ _ _) (flat_cost _)) ?_
  have tail : ∀ (J : Heap) (σ : Env), σ.get 11 = .int .i64 want → σ.get 12 = .int .u8 0 → σ.get 13 = .int .i64 want →
      wpOps (Spec Tryd.prog) m5r22 σ J (regK [8] (seqK (Spec Tryd.prog) [] .ret Q5)) := by
    intro J σ g11 g12 g13
    simp [m5r22, g11, g12, g13]
    refine vc_call (lives11 _) ?_
    simp
    exact ⟨.inr rfl, fin_bool rfl⟩
  simp [costA, m5r8, m5r9]
  by_cases h0 : (free : Int) < n
  · rw [if_neg (by omega)] at hw
    have h0' : free < n := by omega
    have z8 : FI (wrp .i64 (r.con + p.fi)) (r.con + p.fi) := fi64 (by omega)
    have z6 : FI (wrp .i64 ((n : Int) - free)) (n - free) := fi64 (by omega)
    have z7 : FI (wrp .i64 ((n : Int) - free - r.fi)) (n - free - r.fi) := fi64 (by omega)
    simp [h0, h0', Nat.not_le.2 h0', m5r10, m5r11, m5r12, m5r13, m5r14, m5r15, m5r16, m5r17, iaddr_is, h01, ← hp, Pr.row, z8.o, m5r18, z6.o, z7.o, m5r19]
    by_cases h1 : 0 < (n : Int) - free - r.fi
    · rw [if_neg (by omega)] at hw
      have h1' : ¬ ((n : Int) - free - r.fi ≤ 0) := by omega
      have z9 : FI (wrp .i64 ((n : Int) - free - r.fi + r.st)) (n - free - r.fi + r.st) := fi64 (by omega)
      have z10 : FI (wrp .i64 ((n : Int) - free - r.fi + r.st - 1)) (n - free - r.fi + r.st - 1) := fi64 (by omega)
      have z11 : FI (((n : Int) - free - r.fi + r.st - 1).tdiv r.st) ((n - free - r.fi + r.st - 1) / r.st) := ⟨Int.tdiv_eq_ediv_of_nonneg (by omega)⟩
      have hq : 0 ≤ ((n : Int) - free - r.fi + r.st - 1) / r.st ∧ ((n : Int) - free - r.fi + r.st - 1) / r.st ≤ (n : Int) - free - r.fi + r.st - 1 := ⟨Int.ediv_nonneg (by omega) (by omega), Int.ediv_le_self _ (by omega)⟩
      obtain ⟨q, hqq⟩ : ∃ q, q = ((n : Int) - free - r.fi + r.st - 1) / r.st := ⟨_, rfl⟩
      rw [← hqq] at hq hw z11
      have hmul := mul_le (a := p.st) (b := q) (c := 1000000000) (d := 200000) hrng.2.1 hq.1 hrng.2.2 (by omega)
      have z12 : FI (wrp .i64 q) q := fi64 (by omega)
      have z13 : FI (wrp .i64 (p.st * q)) (p.st * q) := fi64 (by omega)
      have z14 : FI (wrp .i64 (r.con + p.fi + p.st * q)) want := ⟨by rw [wrp_i64 (by omega), hw]⟩
      have h2 : ¬ r.st = 0 := by omega
      have h3 : r.fi < (n : Int) - free := by omega
      simp [h1, h1', h3, Int.not_le.2 h3, m5r20, m5r21, iaddr_is, h01, ← hp, Pr.row, z9.o, z10.o, z11.o, z12.o, z13.o, z14.o, h2]
      exact tail _ _ rfl rfl rfl
    · rw [if_pos (by omega)] at hw
      have h1' : (n : Int) - free - r.fi ≤ 0 := by omega
      have h3 : ¬ r.fi < (n : Int) - free := by omega
      simp [h1, h1', h3, Int.not_lt.1 h3]
      exact tail _ _ rfl rfl (by rw [hw]; rfl)
  · rw [if_pos (by omega)] at hw
    have h0' : ¬ free < n := by omega
    simp [h0, h0', Nat.not_lt.1 h0']
    exact tail _ _ rfl rfl (by rw [hw]; rfl)

theorem law5 (r : Rt) (hr : RtOk r) (hmax : r.ps.length ≤ 9223372036854775807) (f sec : Nat) (hf : f < 65536) (hsec : sec < 4294967296) (fr : Int) : Spec Tryd.prog 5 [.agg r.row, .int .u16 f, .int .i64 fr, .int .u32 sec] [] (.bool true) [] := by
  refine spec_of_wp (C := Spec Tryd.prog) (fun _ _ _ _ _ h => h) mixed m5_ok (show 4 ≤ _ by decide) ?_
  show wpC _ _ (.seq (.region m5r0 [1, 2, 3, 4]) (.seq (.seq (.region m5r1 [1, 2, 3, 4, 24]) (.cond (.tmp 24) (.region m5r2 [1, 2, 3, 4]) .skip)) (.seq (.region m5r3 [2, 3, 4, 9]) m5t))) _ _ _
  generalize hT : MCode.seq (.region m5r3 [2, 3, 4, 9]) m5t = T
  simp [m5r0, envOf, Rt.row]
  simp +contextual [m5r1, -condK_bool]
  refine condK_of (y := decide (1 < r.ps.length) && decide (r.ps.length < 40)) ?_ (fun h => ?_) (fun h => ?_)
  · rw [Bool.eq_iff_iff]; simp; omega
  · simp only [Bool.and_eq_true, decide_eq_true_eq] at h
    have z : FI (wrp .i64 ((r.ps.length : Int) - 1)) ((r.ps.length - 1 : Nat) : Int) := ⟨by rw [wrp_i64 (by omega)]; omega⟩
    have hrow : ∀ row ∈ prRows r.ps, row.length = 5 := prRows_row _
    have e2 : r.ps.length - 1 ≤ r.ps.length := by omega
    have e3 : List.take (r.ps.length - (r.ps.length - 1)) (List.drop (r.ps.length - 1) (prRows r.ps)) = prRows (r.ps.drop (r.ps.length - 1)) := by
      rw [List.take_of_length_le (by simp), prRows, prRows, List.map_drop]
    simp [m5r2, z.o, e2, e3]
    refine ⟨hrow, ?_⟩
    have := rest5 ⟨r.pre, r.con, r.fi, r.st, r.ps.drop (r.ps.length - 1)⟩ ⟨fun p hp => hr.ps p (List.mem_of_mem_drop hp), hr.con, hr.fi, hr.st⟩ (.inl (by simp; omega)) f sec hf hsec fr
    rw [hT] at this
    exact wpC_mono (fun e σ H1 h => ⟨h.1, _, rfl, h.2⟩) (this _ rfl rfl rfl rfl)
  · have hlen : r.ps.length ≤ 1 ∨ 40 ≤ r.ps.length := by
      simp only [Bool.and_eq_false_iff, decide_eq_false_iff_not] at h
      omega
    have := rest5 r hr hlen f sec hf hsec fr
    rw [hT] at this
    exact wpC_mono (fun e σ H1 h => ⟨h.1, _, rfl, h.2⟩) (this _ rfl rfl rfl rfl)
end Go.Ab.Tryd.S
