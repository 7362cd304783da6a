/- One: the reference's record. Conditions: none. -/
import Derived.Test.YthpmmdlhoaonaaaJ20Plain
import Derived.Test.YthpmmdlhoaonaaaJ20FnW
namespace Go.Ab.Try.S
open Go.Proofs

def oneV (b : List UInt8) (n : Nat) : AV :=
  match oneB b n with
  | .inr e => .tup [.agg [.int .u8 0, .islice []], .int .i64 0, .int .u8 (e : Nat)]
  | .inl (k, d) => .tup [.agg (recV k d), .int .i64 (14 + (d.length : Nat)), .int .u8 0]

theorem fin_err3 {J : Heap} {e : Int} : Fin [] (.tup [.agg [.int .u8 0, .nils], .int .i64 0, .int .u8 e]) J (.tup [.agg [.int .u8 0, .islice []], .int .i64 0, .int .u8 e]) [] :=
  fin_drop (CVs.cons (CVs.cons (.refl .int) (CVs.cons .nil0 .nil)).agg (CVs.cons (.refl .int) (CVs.cons (.refl .int) .nil))).tup

theorem conv_picks {J J' : Heap} {σ σ' : Env} {ks : List Nat} (hs : J'.length = ks.length) (hn : ks.Nodup) (h : ∀ (i : Nat) k b', ks[i]? = some k → J'[i]? = some b' → ∃ b, J[k]? = some b ∧ BCV 0 J ks b b')
    (hσ : ∀ p ∈ σ', CV 0 J ks (σ.get p.1) p.2) : Conv [] σ J σ' J' :=
  Conv.of (H0 := []) (Hm := []) ⟨rfl, by simp, hn, hs, fun i k' b' h1 h2 => .inr (h i k' b' h1 h2)⟩ (env_cv hσ)

theorem freeze_all {J : Heap} {ks : List Nat} {k g s m : Nat} {rs : List Row} (hb : J[k]? = some (.rows g s rs)) (hk : k ∉ ks) (hm : rs.length = m) (hs : ∀ row ∈ rs, row.length = s) (hp : Plain rs) : CV 0 J ks (.slice k g 0 m) (.islice rs) := by
  have := CV.fz (n := 0) (J := J) (ks := ks) (k := k) (g := g) (a := 0) (m := m) (rows := rs) (fun i j => (((rs[i]?).getD [])[j]?).getD .undef) hb hk (by omega) hm hs
    (fun i row j c h1 h2 => ⟨⟨row, by simpa using h1, by simp [h1, h2]⟩, (hp row (List.mem_of_getElem? h1) c (List.mem_of_getElem? h2)).1⟩)
    (fun i row j c h1 h2 => by simp only [h1, Option.getD_some, h2]; exact .refl (hp row (List.mem_of_getElem? h1) c (List.mem_of_getElem? h2)).2)
  simpa using this

theorem cl_encV1 (n : Int) (k : UInt8) (d : List UInt8) : Cl 0 (encV n k d) := by
  unfold encV
  split
  · exact (Cls.cons (cl_plain (by intro r h; simp at h)) (Cls.cons .int .nil)).tup
  split
  · exact (Cls.cons (cl_plain (by intro r h; simp at h)) (Cls.cons .int .nil)).tup
  · exact (Cls.cons (cl_plain (rowsU8_plain _)) (Cls.cons .int .nil)).tup

/-- The two cells of the reference's One, the record's data frozen. -/
theorem conv_one {J : Heap} {σ : Env} {b d : List UInt8} {n S : Int} {q : Nat} {c : AV} (h0 : J[0]? = some (.rows 0 2 [[.int .u8 0, .nils]])) (h1 : J[1]? = some (.rows 0 2 [[.int .u8 q, c]]))
    (hcv : CV 0 J [0, 1] c (.islice (rowsU8 d)))
    (hσ : ∀ p ∈ [(0, AV.islice (rowsU8 b)), (1, .int .i64 n), (4, .ptr 0 0 0 0), (7, .int .i64 S), (8, .ptr 1 0 0 0)], CV 0 J [0, 1] (σ.get p.1) p.2) :
    Conv [] σ J [(0, AV.islice (rowsU8 b)), (1, .int .i64 n), (4, .ptr 0 0 0 0), (7, .int .i64 S), (8, .ptr 1 0 0 0)] [.rows 0 2 [[.int .u8 0, .nils]], .rows 0 2 [[.int .u8 q, .islice (rowsU8 d)]]] := by
  refine conv_picks rfl (by decide) (fun i k b' e1 e2 => ?_) hσ
  match i with
  | 0 =>
    simp at e1 e2
    subst e1 e2
    refine ⟨_, h0, bcv_plain (by simp) ?_⟩
    intro row h c hc
    simp at h; subst h; simp at hc
    rcases hc with rfl | rfl
    · exact ⟨rfl, .int⟩
    · exact ⟨rfl, .nils⟩
  | 1 =>
    simp at e1 e2
    subst e1 e2
    refine ⟨_, h1, .rows rfl (by simp) fun i row j c' e3 e4 => ?_⟩
    match i with
    | 0 =>
      simp at e3
      subst e3
      match j with
      | 0 => simp at e4; subst e4; exact ⟨⟨_, _, rfl, rfl, .refl .int⟩, rfl⟩
      | 1 => simp at e4; subst e4; exact ⟨⟨_, _, rfl, rfl, hcv⟩, rfl⟩
      | j + 2 => simp at e4
    | i + 1 => simp at e3
  | i + 2 => simp at e1

theorem one_loop {b w d : List UInt8} {S : Nat} {q : Nat} {K : Ex → Env → Heap → Prop} (hS : S ≤ 4096) (hle : 14 + S ≤ b.length) (hwl : w.length = 14 + S) (w9 : wrp .i64 (14 + (S : Int)) = 14 + (S : Int))
    (k1 : (∃ i, i < 14 + S ∧ gb b i ≠ gb w i) → K .ret [(4, .ptr 0 0 0 0), (5, .int .i64 0), (6, .int .u8 11)] [.rows 0 2 [[.int .u8 0, .nils]], .rows 0 2 [[.int .u8 q, .islice (rowsU8 d)]]])
    (k0 : (∀ i, i < 14 + S → gb b i = gb w i) → ∀ x y, K (.exit 0) [(0, .islice (rowsU8 b)), (4, .ptr 0 0 0 0), (7, .int .i64 S), (8, .ptr 1 0 0 0), (9, .islice (rowsU8 w)), (11, x), (61, y)] [.rows 0 2 [[.int .u8 0, .nils]], .rows 0 2 [[.int .u8 q, .islice (rowsU8 d)]]]) :
    wpC (Spec Try.prog) [] (MCode.loop [0, 4, 7, 8, 9, 11] W.m35l24) [(0, .islice (rowsU8 b)), (4, .ptr 0 0 0 0), (7, .int .i64 S), (8, .ptr 1 0 0 0), (9, .islice (rowsU8 w)), (11, .int .i64 0)]
      [.rows 0 2 [[.int .u8 0, .nils]], .rows 0 2 [[.int .u8 q, .islice (rowsU8 d)]]] K := by
  refine vc_loop (fun m σ H => ∃ j : Nat, m = 14 + S - j ∧ j ≤ 14 + S ∧ (∀ i, i < j → gb b i = gb w i) ∧ H = [.rows 0 2 [[.int .u8 0, .nils]], .rows 0 2 [[.int .u8 q, .islice (rowsU8 d)]]] ∧
    σ = [(0, .islice (rowsU8 b)), (4, .ptr 0 0 0 0), (7, .int .i64 S), (8, .ptr 1 0 0 0), (9, .islice (rowsU8 w)), (11, .int .i64 j)]) (14 + S)
    ⟨0, by omega, by omega, by omega, rfl, rfl⟩ ?_
  rintro m σ H ⟨j, rfl, hj, heq, rfl, rfl⟩
  simp [W.m35l24, W.m35r19, w9]
  refine ⟨fun hlt => ?_, fun hge => ?_⟩
  · have hj' : j < 14 + S := by omega
    have l1 : (j : Int) < b.length := by omega
    have l2 : (j : Int) < w.length := by omega
    have b1 := get_u8 (b := b) (i := j) (by omega)
    have b2 := get_u8 (b := w) (i := j) (by omega)
    have z1 : wrp .i64 ((j : Int) + 1) = j + 1 := wrp_i64 (by omega)
    simp [W.m35r20, W.m35r21, W.m35r22, W.m35r23, iaddr_is, b1, b2, l1, l2, z1]
    refine ⟨fun hne => k1 ⟨j, hj', fun h => hne ?_⟩, fun h => ⟨14 + S - (j + 1), by omega, j + 1, rfl, by omega, fun i hi => ?_, by omega⟩⟩
    · simp only [gb, List.getD_eq_getElem?_getD] at h; rw [h]
    · by_cases hij : i < j
      · exact heq i hij
      · have : i = j := by omega
        subst this
        simp only [gb, List.getD_eq_getElem?_getD]; omega
  · exact k0 (fun i hi => heq i (by omega)) _ _

theorem one35 (b : List UInt8) (n : Nat) (hn : n ≤ 1048576) (hb : b.length < 9223372036854775807) : Spec Try.prog 35 [.islice (rowsU8 b), .int .i64 n] [] (oneV b n) [] := by
  refine spec_of_wp (C := Spec Try.prog) (fun _ _ _ _ _ h => h) mixed W.m35_ok (show 2 ≤ _ by decide) ?_
  unfold W.m35
  simp [W.m35r0, W.m35r1, envOf]
  refine gdG_call (v := .bool (wrongB b n)) (fun h => by rw [gsel_t h, gsel_t h]; exact (wrong38 b n hn hb).frame (Cls.cons (cl_plain (rowsU8_plain b)) (Cls.cons .int .nil)) .bool _) ?_
  simp +contextual [W.m35r2, W.m35r3, W.m35r4]
  refine ⟨fun h => ?_, fun h1 h2 => ⟨fun h3 => ?_, fun h3 => ?_⟩⟩
  · have : oneB b n = .inr 5 := oneB5 (by rcases h with h | h; exact .inl (by omega); exact .inr h)
    simp only [oneV, this]
    exact fin_err3
  · have : oneB b n = .inr 6 := oneB6 (by omega) h2 (by omega)
    simp only [oneV, this]
    exact fin_err3
  have hs := wrong_size h2 (by omega)
  obtain ⟨S, hS, hs', nf, hg, hl6, hl7, hl1⟩ := next_facts b (by omega) hs
  simp [W.m35r5, W.m35r6, iaddr_is, hg, hl6, hl7, nf.w1, nf.w3, nf.w6', -Int.natCast_add]
  simp +contextual [W.m35r7, W.m35r8, nf.w9]
  refine ⟨fun h4 => ?_, fun h4 => ?_⟩
  · have : oneB b n = .inr 6 := oneB6 (by omega) h2 (by omega)
    simp only [oneV, this]
    exact fin_err3
  have hle : 14 + S ≤ b.length := by omega
  obtain ⟨q1, q2, q3, q4, q5, q6, q7, q8⟩ := next_facts2 b S hle hb
  simp [W.m35r9, W.m35r10, W.m35r11, W.m35r12, W.m35r13, W.m35r14, W.m35r15, W.m35r16, iaddr_is, hg, hl1, nf.w8, q1, q2, q3, rowsU8_drop, rowsU8_take]
  refine ⟨rowsU8_row b, ?_⟩
  refine W_app_nil (b := (b.drop 10).take S) rfl (by simp [roomB]; omega) fun c H' hacc => ?_
  obtain ⟨N, rfl⟩ := hacc.grown
  have hcc : c.cells = [c] ∧ okRow [c] = true ∧ CV 0 ([ABlk.rows 0 2 [[.int .u8 0, .nils]], .rows 0 2 [[.int .u8 (gb b 1 : Nat), c]]] ++ N) [0, 1] c (.islice (rowsU8 ((b.drop 10).take S))) := by
    rcases hacc with ⟨h5, rfl, h6⟩ | ⟨g, rfl, h6⟩
    · rw [h5]; exact ⟨rfl, rfl, .nil0⟩
    · simp only [List.append_cancel_left_eq] at h6
      subst h6
      exact ⟨rfl, rfl, freeze_all rfl (by simp) rfl (rowsU8_row _) (rowsU8_plain _)⟩
  obtain ⟨hc1, hc2, hc3⟩ := hcc
  simp [hc1, hc2]
  refine vc_conv (conv_one (b := b) (d := (b.drop 10).take S) (n := n) (S := S) (q := gb b 1) rfl rfl hc3 ?_) ?_
  · simp
    exact ⟨.refl (cl_plain (rowsU8_plain b)), .refl .int, cv_ptr rfl, .refl .int, cv_ptr rfl⟩
  have hdl : ((b.drop 10).take S).length = S := by rw [List.length_take, List.length_drop]; omega
  simp [W.m35r17]
  refine vc_call ((rencode13 n (b.getD 1 0) ((b.drop 10).take S) (by omega)).frame (Cls.cons .int (Cls.cons (cl_rec _ _) .nil)) (cl_encV1 _ _ _) _) ?_
  have he : encV n (b.getD 1 0) ((b.drop 10).take S) = .tup [.islice (rowsU8 (encB n (b.getD 1 0) ((b.drop 10).take S))), .int .u8 0] := by
    rw [encV, if_neg (by omega), if_neg (by omega), Int.toNat_natCast]
  rw [he]
  obtain ⟨w, hw⟩ : ∃ w, w = encB n (b.getD 1 0) ((b.drop 10).take S) := ⟨_, rfl⟩
  have hwl : w.length = 14 + S := by rw [hw, enc_len, hdl]
  rw [← hw]
  simp [W.m35r18]
  have hsum := sum_iff (b := b) (n := n) h2 (by omega)
  rw [← hS, ← hw] at hsum
  have key : (∀ i, i < 14 + S → gb b i = gb w i) ↔ numB (crc (b.take (10 + S))) 4 = (b.drop (10 + S)).take 4 :=
    ⟨fun h => hsum.2 (take_eq_of hwl hle h), fun h => gb_of_take (hsum.1 h)⟩
  clear hsum hc3 hc2 hc1 hacc hs
  refine one_loop (b := b) (w := w) (S := S) hs' hle hwl nf.w9 (fun h => ?_) (fun h x y => ?_)
  · have : oneB b n = .inr 11 := oneB11 (by omega) h2 (by omega) (by
      rw [← hS]
      intro hn
      obtain ⟨i, hi, hne⟩ := h
      exact hne (key.2 hn i hi))
    simp [oneV, this]
    exact fin_err3
  · have : oneB b n = .inl (b.getD 1 0, (b.drop 10).take S) := by rw [hS]; exact oneB0 (by omega) h2 (by omega) (by rw [← hS]; exact key.1 h)
    have e : oneV b n = .tup [.agg [.int .u8 (gb b 1), .islice (rowsU8 ((b.drop 10).take S))], .int .i64 (14 + S), .int .u8 0] := by
      simp only [oneV, this, hdl]
      rfl
    rw [e]
    simp [W.m35r25, nf.w9]
    exact fin_drop (.refl (Cls.cons (cl_rec (b.getD 1 0) ((b.drop 10).take S)) (Cls.cons .int (Cls.cons .int .nil))).tup)

theorem cl_oneV (b : List UInt8) (n : Nat) : Cl 0 (oneV b n) := by
  unfold oneV
  split
  · exact (Cls.cons (Cls.cons .int (Cls.cons (cl_plain (by intro r h; simp at h)) .nil)).agg (Cls.cons .int (Cls.cons .int .nil))).tup
  · exact (Cls.cons (cl_rec _ _) (Cls.cons .int (Cls.cons .int .nil))).tup
end Go.Ab.Try.S
