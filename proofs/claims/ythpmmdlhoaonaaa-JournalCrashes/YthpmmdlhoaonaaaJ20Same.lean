/- One: the reference's record. Conditions: none. -/
import Derived.Test.YthpmmdlhoaonaaaJ20Plain
import Derived.Test.YthpmmdlhoaonaaaJ20FnW
namespace Go.Ab.Try.S
open Go.Proofs

def oneV (b : List UInt8) (n : Nat) : AV :=
  match oneB b n with
  | .inr e => .tup [.agg [.int .u8 0, .islice []], .int .i64 0, .int .u8 (e : Nat)]
  | .inl (k, d) => .tup [.agg (recV k d), .int .i64 (14 + (d.length : Nat)), .int .u8 0]

theorem fin_err3 {J : Heap} {e : Int} : Fin [] (.tup [.agg [.int .u8 0, .nils], .int .i64 0, .int .u8 e]) J (.tup [.agg [.int .u8 0, .islice []], .int .i64 0, .int .u8 e]) [] :=
  fin_drop (CVs.cons (CVs.cons (.refl .int) (CVs.cons .nil0 .nil)).agg (CVs.cons (.refl .int) (CVs.cons (.refl .int) .nil))).tup

theorem conv_picks {J J' : Heap} {σ σ' : Env} {ks : List Nat} (hs : J'.length = ks.length) (hn : ks.Nodup) (h : ∀ (i : Nat) k b', ks[i]? = some k → J'[i]? = some b' → ∃ b, J[k]? = some b ∧ BCV 0 J ks b b')
    (hσ : ∀ p ∈ σ', CV 0 J ks (σ.get p.1) p.2) : Conv [] σ J σ' J' :=
  Conv.of (H0 := []) (Hm := []) ⟨rfl, by simp, hn, hs, fun i k' b' h1 h2 => .inr (h i k' b' h1 h2)⟩ (env_cv hσ)

theorem freeze_all {J : Heap} {ks : List Nat} {k g s m : Nat} {rs : List Row} (hb : J[k]? = some (.rows g s rs)) (hk : k ∉ ks) (hm : rs.length = m) (hs : ∀ row ∈ rs, row.length = s) (hp : Plain rs) : CV 0 J ks (.slice k g 0 m) (.islice rs) := by
  have := CV.fz (n := 0) (J := J) (ks := ks) (k := k) (g := g) (a := 0) (m := m) (rows := rs) (fun i j => (((rs[i]?).getD [])[j]?).getD .undef) hb hk (by omega) hm hs
    (fun i row j c h1 h2 => ⟨⟨row, by simpa using h1, by simp [h1, h2]⟩, (hp row (List.mem_of_getElem? h1) c (List.mem_of_getElem? h2)).1⟩)
    (fun i row j c h1 h2 => by simp only [h1, Option.getD_some, h2]; exact .refl (hp row (List.mem_of_getElem? h1) c (List.mem_of_getElem? h2)).2)
  simpa using this

theorem cl_encV1 (n : Int) (k : UInt8) (d : List UInt8) : Cl 0 (encV n k d) := by
  unfold encV
  split
  · exact (Cls.cons (cl_plain (by intro r h; simp at h)) (Cls.cons .int .nil)).tup
  split
  · exact (Cls.cons (cl_plain (by intro r h; simp at h)) (Cls.cons .int .nil)).tup
  · exact (Cls.cons (cl_plain (rowsU8_plain _)) (Cls.cons .int .nil)).tup

/-- The two cells of the reference's One, the record's data frozen. -/
theorem conv_one {J : Heap} {σ : Env} {b d : List UInt8} {n S : Int} {q : Nat} {c : AV} (h0 : J[0]? = some (.rows 0 2 [[.int .u8 0, .nils]])) (h1 : J[1]? = some (.rows 0 2 [[.int .u8 q, c]]))
    (hcv : CV 0 J [0, 1] c (.islice (rowsU8 d)))
    (hσ : ∀ p ∈ [(0, AV.islice (rowsU8 b)), (1, .int .i64 n), (4, .ptr 0 0 0 0), (7, .int .i64 S), (8, .ptr 1 0 0 0)], CV 0 J [0, 1] (σ.get p.1) p.2) :
    Conv [] σ J [(0, AV.islice (rowsU8 b)), (1, .int .i64 n), (4, .ptr 0 0 0 0), (7, .int .i64 S), (8, .ptr 1 0 0 0)] [.rows 0 2 [[.int .u8 0, .nils]], .rows 0 2 [[.int .u8 q, .islice (rowsU8 d)]]] := by
  refine conv_picks rfl (by decide) (fun i k b' e1 e2 => ?_) hσ
  match i with
  | 0 =>
    simp at e1 e2
    subst e1 e2
    refine ⟨_, h0, bcv_plain (by simp) ?_⟩
    intro row h c hc
    simp at h; subst h; simp at hc
    rcases hc with rfl | rfl
    · exact ⟨rfl, .int⟩
    · exact ⟨rfl, .nils⟩
  | 1 =>
    simp at e1 e2
    subst e1 e2
    refine ⟨_, h1, .rows rfl (by simp) fun i row j c' e3 e4 => ?_⟩
    match i with
    | 0 =>
      simp at e3
      subst e3
      match j with
      | 0 => simp at e4; subst e4; exact ⟨⟨_, _, rfl, rfl, .refl .int⟩, rfl⟩
      | 1 => simp at e4; subst e4; exact ⟨⟨_, _, rfl, rfl, hcv⟩, rfl⟩
      | j + 2 => simp at e4
    | i + 1 => simp at e3
  | i + 2 => simp at e1

theorem one_loop {b w d : List UInt8} {S : Nat} {q : Nat} {K : Ex → Env → Heap → Prop} (hS : S ≤ 4096) (hle : 14 + S ≤ b.length) (hwl : w.length = 14 + S) (w9 : wrp .i64 (14 + (S : Int)) = 14 + (S : Int))
    (k1 : (∃ i, i < 14 + S ∧ gb b i ≠ gb w i) → K .ret [(4, .ptr 0 0 0 0), (5, .int .i64 0), (6, .int .u8 11)] [.rows 0 2 [[.int .u8 0, .nils]], .rows 0 2 [[.int .u8 q, .islice (rowsU8 d)]]])
    (k0 : (∀ i, i < 14 + S → gb b i = gb w i) → ∀ x y, K (.exit 0) [(0, .islice (rowsU8 b)), (4, .ptr 0 0 0 0), (7, .int .i64 S), (8, .ptr 1 0 0 0), (9, .islice (rowsU8 w)), (11, x), (61, y)] [.rows 0 2 [[.int .u8 0, .nils]], .rows 0 2 [[.int .u8 q, .islice (rowsU8 d)]]]) :
    wpC (Spec Try.prog) [] (MCode.loop [0, 4, 7, 8, 9, 11] W.m35l24) [(0, .islice (rowsU8 b)), (4, .ptr 0 0 0 0), (7, .int .i64 S), (8, .ptr 1 0 0 0), (9, .islice (rowsU8 w)), (11, .int .i64 0)]
      [.rows 0 2 [[.int .u8 0, .nils]], .rows 0 2 [[.int .u8 q, .islice (rowsU8 d)]]] K := by
  refine vc_loop (fun m σ H => ∃ j : Nat, m = 14 + S - j ∧ j ≤ 14 + S ∧ (∀ i, i < j → gb b i = gb w i) ∧ H = [.rows 0 2 [[.int .u8 0, .nils]], .rows 0 2 [[.int .u8 q, .islice (rowsU8 d)]]] ∧
    σ = [(0, .islice (rowsU8 b)), (4, .ptr 0 0 0 0), (7, .int .i64 S), (8, .ptr 1 0 0 0), (9, .islice (rowsU8 w)), (11, .int .i64 j)]) (14 + S)
    ⟨0, by omega, by omega, by omega, rfl, rfl⟩ ?_
  rintro m σ H ⟨j, rfl, hj, heq, rfl, rfl⟩
  simp [W.m35l24, W.m35r19, w9]
  refine ⟨fun hlt => ?_, fun hge => ?_⟩
  · have hj' : j < 14 + S := by omega
    have l1 : (j : Int) < b.length := by omega
    have l2 : (j : Int) < w.length := by omega
    have b1 := get_u8 (b := b) (i := j) (by omega)
    have b2 := get_u8 (b := w) (i := j) (by omega)
    have z1 : wrp .i64 ((j : Int) + 1) = j + 1 := wrp_i64 (by omega)
    simp [W.m35r20, W.m35r21, W.m35r22, W.m35r23, iaddr_is, b1, b2, l1, l2, z1]
    refine ⟨fun hne => k1 ⟨j, hj', fun h => hne ?_⟩, fun h => ⟨14 + S - (j + 1), by omega, j + 1, rfl, by omega, fun i hi => ?_, by omega⟩⟩
    · simp only [gb, List.getD_eq_getElem?_getD] at h; rw [h]
    · by_cases hij : i < j
      · exact heq i hij
      · have : i = j := by omega
        subst this
        simp only [gb, List.getD_eq_getElem?_getD]; omega
  · exact k0 (fun i hi => heq i (by omega)) _ _

theorem one35 (b : List UInt8) (n : Nat) (hn : n ≤ 1048576) (hb : b.length < 9223372036854775807) : Spec Try.prog 35 [.islice (rowsU8 b), .int .i64 n] [] (oneV b n) [] := by
  refine spec_of_wp (C := Spec Try.prog) (fun _ _ _ _ _ h => h) mixed W.m35_ok (show 2 ≤ _ by decide) ?_
  unfold W.m35
  simp [W.m35r0, W.m35r1, envOf]
  refine gdG_call (v := .bool (wrongB b n)) (fun h => by rw [gsel_t h, gsel_t h]; exact (wrong38 b n hn hb).frame (Cls.cons (cl_plain (rowsU8_plain b)) (Cls.cons .int .nil)) .bool _) ?_
  simp +contextual [W.m35r2, W.m35r3, W.m35r4]
  refine ⟨fun h => ?_, fun h1 h2 => ⟨fun h3 => ?_, fun h3 => ?_⟩⟩
  · have : oneB b n = .inr 5 := oneB5 (by rcases h with h | h; exact .inl (by omega); exact .inr h)
    simp only [oneV, this]
    exact fin_err3
  · have : oneB b n = .inr 6 := oneB6 (by omega) h2 (by omega)
    simp only [oneV, this]
    exact fin_err3
  have hs := wrong_size h2 (by omega)
  obtain ⟨S, hS, hs', nf, hg, hl6, hl7, hl1⟩ := next_facts b (by omega) hs
  simp [W.m35r5, W.m35r6, iaddr_is, hg, hl6, hl7, nf.w1, nf.w3, nf.w6', -Int.natCast_add]
  simp +contextual [W.m35r7, W.m35r8, nf.w9]
  refine ⟨fun h4 => ?_, fun h4 => ?_⟩
  · have : oneB b n = .inr 6 := oneB6 (by omega) h2 (by omega)
    simp only [oneV, this]
    exact fin_err3
  have hle : 14 + S ≤ b.length := by omega
  obtain ⟨q1, q2, q3, q4, q5, q6, q7, q8⟩ := next_facts2 b S hle hb
  simp [W.m35r9, W.m35r10, W.m35r11, W.m35r12, W.m35r13, W.m35r14, W.m35r15, W.m35r16, iaddr_is, hg, hl1, nf.w8, q1, q2, q3, rowsU8_drop, rowsU8_take]
  refine ⟨rowsU8_row b, ?_⟩
  refine W_app_nil (b := (b.drop 10).take S) rfl (by simp [roomB]; omega) fun c H' hacc => ?_
  obtain ⟨N, rfl⟩ := hacc.grown
  have hcc : c.cells = [c] ∧ okRow [c] = true ∧ CV 0 ([ABlk.rows 0 2 [[.int .u8 0, .nils]], .rows 0 2 [[.int .u8 (gb b 1 : Nat), c]]] ++ N) [0, 1] c (.islice (rowsU8 ((b.drop 10).take S))) := by
    rcases hacc with ⟨h5, rfl, h6⟩ | ⟨g, rfl, h6⟩
    · rw [h5]; exact ⟨rfl, rfl, .nil0⟩
    · simp only [List.append_cancel_left_eq] at h6
      subst h6
      exact ⟨rfl, rfl, freeze_all rfl (by simp) rfl (rowsU8_row _) (rowsU8_plain _)⟩
  obtain ⟨hc1, hc2, hc3⟩ := hcc
  simp [hc1, hc2]
  refine vc_conv (conv_one (b := b) (d := (b.drop 10).take S) (n := n) (S := S) (q := gb b 1) rfl rfl hc3 ?_) ?_
  · simp
    exact ⟨.refl (cl_plain (rowsU8_plain b)), .refl .int, cv_ptr rfl, .refl .int, cv_ptr rfl⟩
  have hdl : ((b.drop 10).take S).length = S := by rw [List.length_take, List.length_drop]; omega
  simp [W.m35r17]
  refine vc_call ((rencode13 n (b.getD 1 0) ((b.drop 10).take S) (by omega)).frame (Cls.cons .int (Cls.cons (cl_rec _ _) .nil)) (cl_encV1 _ _ _) _) ?_
  have he : encV n (b.getD 1 0) ((b.drop 10).take S) = .tup [.islice (rowsU8 (encB n (b.getD 1 0) ((b.drop 10).take S))), .int .u8 0] := by
    rw [encV, if_neg (by omega), if_neg (by omega), Int.toNat_natCast]
  rw [he]
  obtain ⟨w, hw⟩ : ∃ w, w = encB n (b.getD 1 0) ((b.drop 10).take S) := ⟨_, rfl⟩
  have hwl : w.length = 14 + S := by rw [hw, enc_len, hdl]
  rw [← hw]
  simp [W.m35r18]
  have hsum := sum_iff (b := b) (n := n) h2 (by omega)
  rw [← hS, ← hw] at hsum
  have key : (∀ i, i < 14 + S → gb b i = gb w i) ↔ numB (crc (b.take (10 + S))) 4 = (b.drop (10 + S)).take 4 :=
    ⟨fun h => hsum.2 (take_eq_of hwl hle h), fun h => gb_of_take (hsum.1 h)⟩
  clear hsum hc3 hc2 hc1 hacc hs
  refine one_loop (b := b) (w := w) (S := S) hs' hle hwl nf.w9 (fun h => ?_) (fun h x y => ?_)
  · have : oneB b n = .inr 11 := oneB11 (by omega) h2 (by omega) (by
      rw [← hS]
      intro hn
      obtain ⟨i, hi, hne⟩ := h
      exact hne (key.2 hn i hi))
    simp [oneV, this]
    exact fin_err3
  · have : oneB b n = .inl (b.getD 1 0, (b.drop 10).take S) := by rw [hS]; exact oneB0 (by omega) h2 (by omega) (by rw [← hS]; exact key.1 h)
    have e : oneV b n = .tup [.agg [.int .u8 (gb b 1), .islice (rowsU8 ((b.drop 10).take S))], .int .i64 (14 + S), .int .u8 0] := by
      simp only [oneV, this, hdl]
      rfl
    rw [e]
    simp [W.m35r25, nf.w9]
    exact fin_drop (.refl (Cls.cons (cl_rec (b.getD 1 0) ((b.drop 10).take S)) (Cls.cons .int (Cls.cons .int .nil))).tup)

theorem cl_oneV (b : List UInt8) (n : Nat) : Cl 0 (oneV b n) := by
  unfold oneV
  split
  · exact (Cls.cons (Cls.cons .int (Cls.cons (cl_plain (by intro r h; simp at h)) .nil)).agg (Cls.cons .int (Cls.cons .int .nil))).tup
  · exact (Cls.cons (cl_rec _ _) (Cls.cons .int (Cls.cons .int .nil))).tup
end Go.Ab.Try.S

/- Scan of the reference. Conditions: none. -/
namespace Go.Ab.Try.S
open Go.Proofs

theorem acc1_L {H0 H J : Heap} {sz : Nat} {l : List Row} {c : AV} (h : Acc1 H0 sz l c H) : AccL sz l c (H ++ J) := by
  rcases h with ⟨rfl, rfl, rfl⟩ | ⟨g, rfl, rfl⟩
  · exact .inl ⟨rfl, rfl⟩
  · exact .inr ⟨_, g, rfl, by simp⟩

theorem accL_append {H : Heap} {sz b : Nat} {l news : List Row} {c x : AV} (h : AccL sz l c H) (hx : elems H x = some news) (hl : ∀ row ∈ news, row.length = sz) (hroom : (l.length + news.length) * b ≤ roomB) {K : AV × Heap → Prop}
    (k : ∀ c' H', AccL sz (l ++ news) c' H' → K (c', H')) : W (appendAV H sz b c x) K := by
  rcases h with ⟨rfl, rfl⟩ | ⟨r, g, rfl, hr⟩
  · cases news with
    | nil => exact ⟨_, append_nil0 hx, k _ _ (.inl ⟨rfl, rfl⟩)⟩
    | cons row rest => exact ⟨_, append_nil hx hl (by simpa using hroom), k _ _ (.inr ⟨H.length, 0, by simp, by simp⟩)⟩
  · have hlt := (List.getElem?_eq_some_iff.1 hr).1
    refine W_app hr hx hl hroom fun g' => k _ _ (.inr ⟨r, g', by simp, by simp [hlt]⟩)

theorem rscan20 (b : List UInt8) (hb : b.length < 9223372036854775807) : Spec Try.prog 20 [.islice (rowsU8 b)] [] (scanV b) [] := by
  refine spec_of_wp (C := Spec Try.prog) (fun _ _ _ _ _ h => h) mixed m20_ok (show 1 ≤ _ by decide) ?_
  unfold m20
  simp [m20r0, m20r1, m20r2, envOf]
  refine vc_loop (fun m σ H => ∃ (l : List Rcd) (rest : List UInt8) (f : Nat) (c : AV) (at' : Nat), m = rest.length ∧ l.length ≤ 1048576 ∧ rest.length ≤ f ∧ rest.length ≤ b.length ∧ at' + rest.length = b.length ∧ rest = b.drop at' ∧ scanB b = (l ++ (scanF f rest l.length).1, (scanF f rest l.length).2) ∧
    AccL 2 (recRows l) c H ∧ σ = [(0, .islice (rowsU8 b)), (5, c), (6, .int .i64 at')]) b.length
    ⟨[], b, b.length, .nils, 0, rfl, by simp, by omega, by omega, by omega, rfl, rfl, .inl ⟨rfl, rfl⟩, rfl⟩ ?_
  rintro m σ H ⟨l, rest, f, c, at', rfl, hl, hf, hrb, hat, hre, hscan, hacc, rfl⟩
  simp [m20l9]
  have conv : ∃ c' H', Conv [] [(0, .islice (rowsU8 b)), (5, c), (6, .int .i64 at')] H [(0, .islice (rowsU8 b)), (5, c'), (6, .int .i64 at')] H' ∧ Acc1 [] 2 (recRows l) c' H' := by
    rcases hacc with ⟨h1, rfl⟩ | ⟨r, g, rfl, hr⟩
    · refine ⟨.nils, [], conv_drop ?_, .inl ⟨h1, rfl, rfl⟩⟩
      simp
      exact ⟨.refl (cl_plain (rowsU8_plain b)), .refl .nils, .refl .int⟩
    · refine ⟨.slice 0 g 0 (recRows l).length, [.rows g 2 (recRows l)], conv_pick1 hr (recRows_row l) (recRows_plain l) ?_, .inr ⟨g, rfl, rfl⟩⟩
      simp
      exact ⟨.refl (cl_plain (rowsU8_plain b)), by simpa using cv_slice (i := 0) rfl, .refl .int⟩
  obtain ⟨c', H', hconv, hacc'⟩ := conv
  refine vc_conv hconv ?_
  have done : rest = [] → scanB b = (l, rest, 0) := by
    intro h
    subst h
    rw [hscan]
    cases f <;> simp [scanF]
  have eat : (at' : Int) = (b.length : Int) - rest.length := by omega
  have fin0 : ∀ (c : AV) (H : Heap), AccL 2 (recRows l) c H → rest = [] → Fin [] (.tup [c, .int .i64 at', .int .u8 0]) H (scanV b) [] := by
    intro c H hc h
    unfold scanV
    rw [done h, eat]
    exact fin_drop (CVs.cons (hc.freeze (recRows_row l) (recRows_plain l)) (CVs.cons (.refl .int) (CVs.cons (.refl .int) .nil))).tup
  have finE : ∀ (c : AV) (H : Heap) (e : Nat), AccL 2 (recRows l) c H → rest ≠ [] → oneB rest l.length = .inr e → Fin [] (.tup [c, .int .i64 at', .int .u8 (e : Nat)]) H (scanV b) [] := by
    intro c H e hc h ho
    obtain ⟨f', rfl⟩ : ∃ f', f = f' + 1 := ⟨f - 1, by have := List.length_pos_iff.2 h; omega⟩
    have : scanB b = (l, rest, e) := by
      rw [hscan]
      simp [scanF, h, ho]
    unfold scanV
    rw [this, eat]
    exact fin_drop (CVs.cons (hc.freeze (recRows_row l) (recRows_plain l)) (CVs.cons (.refl .int) (CVs.cons (.refl .int) .nil))).tup
  have step : ∀ (c2 : AV) (H2 : Heap) (k : UInt8) (d : List UInt8) (q : Int), oneB rest l.length = .inl (k, d) → rest ≠ [] → AccL 2 (recRows (l ++ [(k, d)])) c2 H2 → q = at' + (14 + d.length) →
      ∃ m, m < rest.length ∧ ∃ (l' : List Rcd) (rest' : List UInt8), m = rest'.length ∧ l'.length ≤ 1048576 ∧ ∃ x, rest'.length ≤ x ∧ rest'.length ≤ b.length ∧ ∃ x1 x2,
        x2 + rest'.length = b.length ∧ rest' = b.drop x2 ∧ scanB b = (l' ++ (scanF x rest' l'.length).1, (scanF x rest' l'.length).2) ∧ AccL 2 (recRows l') x1 H2 ∧ c2 = x1 ∧ q = (x2 : Nat) := by
    intro c2 H2 k d q ho hne h2 hq
    obtain ⟨f', rfl⟩ : ∃ f', f = f' + 1 := ⟨f - 1, by have := List.length_pos_iff.2 hne; omega⟩
    obtain ⟨k1, k2, k3⟩ := one_ok ho
    have hdl : (rest.drop (14 + d.length)).length = rest.length - (14 + d.length) := by simp
    refine ⟨(rest.drop (14 + d.length)).length, by omega, l ++ [(k, d)], rest.drop (14 + d.length), rfl, by simp; omega, f', by omega, by omega, c2, at' + (14 + d.length), by omega, by rw [hre, List.drop_drop], ?_, h2, rfl, by omega⟩
    rw [hscan]
    simp [scanF, hne, ho]
  have e14 : ∀ d : List UInt8, 14 + d.length ≤ rest.length → wrp .i64 ((at' : Int) + (14 + (d.length : Nat))) = (at' : Int) + (14 + (d.length : Nat)) := fun d h => wrp_i64 (by omega)
  have hat0 : (0 : Int) ≤ at' := by omega
  have hat1 : at' ≤ b.length := by omega
  have hat2 : (at' : Int) < b.length ↔ rest ≠ [] := by
    rw [← List.length_pos_iff]; omega
  have hlen := hacc'.len
  have hlt : ((recRows l).length : Int) = l.length := by simp
  obtain ⟨N, hN⟩ := hacc'.grown
  simp [m20r3, -List.append_eq]
  refine ⟨fun hpos => ?_, fun hz => ?_⟩
  · have hne := hat2.1 (by omega)
    have hrow := rowsU8_row b
    have htk : List.take (b.length - at') (rowsU8 rest) = rowsU8 rest := List.take_of_length_le (by simp; omega)
    simp [m20r4, hlen, hat1, rowsU8_drop, ← hre, htk]
    refine ⟨hrow, ?_⟩
    refine vc_call ((one35 rest l.length hl (by omega)).frame (Cls.cons (cl_plain (rowsU8_plain _)) (Cls.cons .int .nil)) (cl_oneV _ _) _) ?_
    unfold oneV
    cases ho : oneB rest l.length with
    | inr e =>
      have he := one_err ho
      have he0 : ¬ (e : Int) = 0 := by omega
      simp [m20r5, m20r6, he.1]
      exact finE _ _ e (acc1_L hacc') hne ho
    | inl kd =>
      obtain ⟨k, d⟩ := kd
      have hd := e14 d (one_ok ho).2.1
      simp [m20r5, m20r7, recV]
      refine accL_append (acc1_L hacc') rfl (by intro q hq; simp at hq; subst hq; rfl) (by simp [roomB]; omega) fun c2 H2 h2 => ?_
      have e2 : recRows l ++ [recV k d] = recRows (l ++ [(k, d)]) := by simp [recRows]
      simp [m20r8, hd]
      exact step c2 H2 k d _ ho hne (by rw [← e2]; exact h2) rfl
  · simp [m20r10]
    refine fin0 _ _ ?_ (by
      have : rest.length = 0 := by omega
      exact List.length_eq_zero_iff.1 this)
    have := acc1_L (J := []) hacc'
    rwa [List.append_nil] at this
end Go.Ab.Try.S

/- Same, Recover. Conditions: none. -/
namespace Go.Ab.Try.S
open Go.Proofs

theorem scanF_rest : ∀ (f : Nat) (b : List UInt8) (n : Nat), (scanF f b n).2.1.length ≤ b.length
  | 0, b, n => by simp [scanF]
  | f + 1, b, n => by
    unfold scanF
    split
    · simp
    · split
      · simp
      · rename_i d _
        have := scanF_rest f (b.drop (14 + d.length)) (n + 1)
        simp only [List.length_drop] at this ⊢
        exact Nat.le_trans this (by omega)

def recovV (b : List UInt8) : AV := .tup [.agg (logV (b.take (b.length - (scanB b).2.1.length)) ((b.length - (scanB b).2.1.length : Nat) : Int) ((scanB b).1.length : Nat)), .islice (recRows (scanB b).1)]

theorem cl_scanV (b : List UInt8) : Cl 0 (scanV b) := (Cls.cons (cl_plain (recRows_plain _)) (Cls.cons .int (Cls.cons .int .nil))).tup
theorem cl_recovV (b : List UInt8) : Cl 0 (recovV b) := (Cls.cons (cl_log _ _ _) (Cls.cons (cl_plain (recRows_plain _)) .nil)).tup

theorem rec_at {l : List Rcd} {j : Nat} (h : j < l.length) : (recRows l)[j]? = some (recV l[j].1 l[j].2) := by simp [recRows, h]

theorem rec_get {l : List Rcd} {j : Nat} (h : j < (recRows l).length) : (recRows l)[j] = recV (l[j]'(by simpa using h)).1 (l[j]'(by simpa using h)).2 := by simp [recRows]

theorem same19 (l l' : List Rcd) (hl : l.length < 9223372036854775807) : Spec Try.prog 19 [.islice (recRows l), .islice (recRows l')] [] (.bool (decide (l = l'))) [] := by
  refine spec_of_wp (C := Spec Try.prog) (fun _ _ _ _ _ h => h) mixed m19_ok (show 2 ≤ _ by decide) ?_
  unfold m19
  simp [m19r0, m19r1, envOf, m19r2, m19r3]
  refine ⟨fun h => fin_bool ?_, fun h => ?_⟩
  · symm; rw [decide_eq_false_iff_not]; intro e; subst e; exact h rfl
  have h' : l.length = l'.length := by omega
  refine vc_loop (fun m σ H => ∃ j : Nat, m = l.length - j ∧ j ≤ l.length ∧ (∀ i, i < j → l[i]? = l'[i]?) ∧ H = [] ∧ σ = [(0, .islice (recRows l)), (1, .islice (recRows l')), (5, .int .i64 j)]) l.length
    ⟨0, by omega, by omega, by omega, rfl, rfl⟩ ?_
  rintro m σ H ⟨j, rfl, hj, heq, rfl, rfl⟩
  simp [m19l9, m19r4, m19r10]
  refine ⟨fun hlt => ?_, fun hge => ?_⟩
  · have hj' : j < l.length := by omega
    have hj2 : j < l'.length := by omega
    have b1 := rec_at hj'
    have b2 := rec_at hj2
    have z1 : wrp .i64 ((j : Int) + 1) = j + 1 := wrp_i64 (by omega)
    have l1 : (j : Int) < l'.length := by omega
    simp +contextual (disch := first | trivial | assumption | omega | (simp +contextual; done) | (simp +contextual; omega)) [m19r5, m19r6, m19r7, m19r8, iaddr_is, rec_get, l1, hlt, recV, bytesOf_rowsU8, z1]
    refine ⟨fun hne => fin_bool ?_, fun q1 q2 => ⟨l.length - (j + 1), by omega, j + 1, rfl, by omega, fun i hi => ?_, by omega⟩⟩
    · symm; rw [decide_eq_false_iff_not]; intro e; subst e; simp at hne
    · by_cases hij : i < j
      · exact heq i hij
      · have : i = j := by omega
        subst this
        rw [List.getElem?_eq_getElem hj', List.getElem?_eq_getElem hj2]
        exact congrArg some (Prod.ext (u8_eq (by omega)) q2)
  · refine fin_bool ?_
    symm; rw [decide_eq_true_iff]
    apply List.ext_getElem? 
    intro i
    by_cases hi : i < l.length
    · exact heq i (by omega)
    · rw [List.getElem?_eq_none (by omega), List.getElem?_eq_none (by omega)]

theorem acc_cell {x : ABlk} {c : AV} {N : Heap} {b : List UInt8} (h : Acc1 [x] 1 (rowsU8 b) c (x :: N)) : c.cells = [c] ∧ okRow [c] = true ∧ c.sc = true ∧ ∀ y, CV 0 (y :: N) [] c (.islice (rowsU8 b)) := by
  rcases h with ⟨h5, rfl, h6⟩ | ⟨g, rfl, h6⟩
  · rw [h5]; exact ⟨rfl, rfl, rfl, fun _ => .nil0⟩
  · simp only [List.cons_append, List.nil_append, List.cons.injEq, true_and] at h6
    subst h6
    exact ⟨rfl, rfl, rfl, fun _ => freeze_all rfl (by simp) rfl (rowsU8_row _) (rowsU8_plain _)⟩

theorem recover21 (b : List UInt8) (hb : b.length ≤ 1000000000) : Spec Try.prog 21 [.islice (rowsU8 b)] [] (recovV b) [] := by
  refine spec_of_wp (C := Spec Try.prog) (fun _ _ _ _ _ h => h) mixed m21_ok (show 1 ≤ _ by decide) ?_
  unfold m21
  simp [m21r0, m21r1, envOf]
  refine vc_call ((scan18 b (by omega)).frame (Cls.cons (cl_plain (rowsU8_plain b)) .nil) (cl_scanV b) _) ?_
  have hr := scanF_rest b.length b 0
  obtain ⟨at', hat⟩ : ∃ x, x = b.length - (scanB b).2.1.length := ⟨_, rfl⟩
  have e1 : (b.length : Int) - ((scanB b).2.1.length : Nat) = at' := by have : (scanB b).2.1.length ≤ b.length := hr; omega
  have hle : at' ≤ b.length := by omega
  simp only [scanV, e1, recovV, ← hat]
  simp [m21r2, hle, rowsU8_take]
  refine ⟨rowsU8_row b, ?_⟩
  refine W_app_nil (b := b.take at') rfl (by simp [roomB]; omega) fun c H' hacc => ?_
  obtain ⟨N, rfl⟩ := hacc.grown
  simp only [List.cons_append, List.nil_append] at hacc
  obtain ⟨hc1, hc2, hc3, hc4⟩ := acc_cell hacc
  simp [hc1, hc2, hc3]
  exact fin_drop (CVs.cons (CVs.cons (hc4 _) (CVs.cons (.refl .int) (CVs.cons (.refl .int) .nil))).agg (CVs.cons (.refl (cl_plain (recRows_plain _))) .nil)).tup

theorem rrecover22 (b : List UInt8) (hb : b.length ≤ 1000000000) : Spec Try.prog 22 [.islice (rowsU8 b)] [] (recovV b) [] := by
  refine spec_of_wp (C := Spec Try.prog) (fun _ _ _ _ _ h => h) mixed m22_ok (show 1 ≤ _ by decide) ?_
  unfold m22
  simp [m22r0, m22r1, envOf]
  refine vc_call ((rscan20 b (by omega)).frame (Cls.cons (cl_plain (rowsU8_plain b)) .nil) (cl_scanV b) _) ?_
  have hr := scanF_rest b.length b 0
  obtain ⟨at', hat⟩ : ∃ x, x = b.length - (scanB b).2.1.length := ⟨_, rfl⟩
  have e1 : (b.length : Int) - ((scanB b).2.1.length : Nat) = at' := by have : (scanB b).2.1.length ≤ b.length := hr; omega
  have hle : at' ≤ b.length := by omega
  simp only [scanV, e1, recovV, ← hat]
  simp [m22r2, hle, rowsU8_take]
  refine ⟨rowsU8_row b, ?_⟩
  obtain ⟨c, H', hacc, hsp⟩ := copied36o (b.take at') (by simp [roomB]; omega) [.rows 0 3 [[.nils, .int .i64 0, .int .i64 0]]]
  refine vc_call hsp ?_
  obtain ⟨N, rfl⟩ := hacc.grown
  simp only [List.cons_append, List.nil_append] at hacc
  obtain ⟨hc1, hc2, hc3, hc4⟩ := acc_cell hacc
  simp [hc1, hc2, hc3]
  exact fin_drop (CVs.cons (CVs.cons (hc4 _) (CVs.cons (.refl .int) (CVs.cons (.refl .int) .nil))).agg (CVs.cons (.refl (cl_plain (recRows_plain _))) .nil)).tup
end Go.Ab.Try.S
