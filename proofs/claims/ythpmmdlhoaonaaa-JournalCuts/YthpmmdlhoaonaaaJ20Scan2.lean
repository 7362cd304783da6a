/- Scan of the reference. Conditions: none. -/
import Derived.Test.YthpmmdlhoaonaaaJ20One
namespace Go.Ab.Try.S
open Go.Proofs

theorem acc1_L {H0 H J : Heap} {sz : Nat} {l : List Row} {c : AV} (h : Acc1 H0 sz l c H) : AccL sz l c (H ++ J) := by
  rcases h with ⟨rfl, rfl, rfl⟩ | ⟨g, rfl, rfl⟩
  · exact .inl ⟨rfl, rfl⟩
  · exact .inr ⟨_, g, rfl, by simp⟩

theorem accL_append {H : Heap} {sz b : Nat} {l news : List Row} {c x : AV} (h : AccL sz l c H) (hx : elems H x = some news) (hl : ∀ row ∈ news, row.length = sz) (hroom : (l.length + news.length) * b ≤ roomB) {K : AV × Heap → Prop}
    (k : ∀ c' H', AccL sz (l ++ news) c' H' → K (c', H')) : W (appendAV H sz b c x) K := by
  rcases h with ⟨rfl, rfl⟩ | ⟨r, g, rfl, hr⟩
  · cases news with
    | nil => exact ⟨_, append_nil0 hx, k _ _ (.inl ⟨rfl, rfl⟩)⟩
    | cons row rest => exact ⟨_, append_nil hx hl (by simpa using hroom), k _ _ (.inr ⟨H.length, 0, by simp, by simp⟩)⟩
  · have hlt := (List.getElem?_eq_some_iff.1 hr).1
    refine W_app hr hx hl hroom fun g' => k _ _ (.inr ⟨r, g', by simp, by simp [hlt]⟩)

theorem rscan20 (b : List UInt8) (hb : b.length < 9223372036854775807) : Spec Try.prog 20 [.islice (rowsU8 b)] [] (scanV b) [] := by
  refine spec_of_wp (C := Spec Try.prog) (fun _ _ _ _ _ h => h) mixed m20_ok (show 1 ≤ _ by decide) ?_
  unfold m20
  simp [m20r0, m20r1, m20r2, envOf]
  refine vc_loop (fun m σ H => ∃ (l : List Rcd) (rest : List UInt8) (f : Nat) (c : AV) (at' : Nat), m = rest.length ∧ l.length ≤ 1048576 ∧ rest.length ≤ f ∧ rest.length ≤ b.length ∧ at' + rest.length = b.length ∧ rest = b.drop at' ∧ scanB b = (l ++ (scanF f rest l.length).1, (scanF f rest l.length).2) ∧
    AccL 2 (recRows l) c H ∧ σ = [(0, .islice (rowsU8 b)), (5, c), (6, .int .i64 at')]) b.length
    ⟨[], b, b.length, .nils, 0, rfl, by simp, by omega, by omega, by omega, rfl, rfl, .inl ⟨rfl, rfl⟩, rfl⟩ ?_
  rintro m σ H ⟨l, rest, f, c, at', rfl, hl, hf, hrb, hat, hre, hscan, hacc, rfl⟩
  simp [m20l9]
  have conv : ∃ c' H', Conv [] [(0, .islice (rowsU8 b)), (5, c), (6, .int .i64 at')] H [(0, .islice (rowsU8 b)), (5, c'), (6, .int .i64 at')] H' ∧ Acc1 [] 2 (recRows l) c' H' := by
    rcases hacc with ⟨h1, rfl⟩ | ⟨r, g, rfl, hr⟩
    · refine ⟨.nils, [], conv_drop ?_, .inl ⟨h1, rfl, rfl⟩⟩
      simp
      exact ⟨.refl (cl_plain (rowsU8_plain b)), .refl .nils, .refl .int⟩
    · refine ⟨.slice 0 g 0 (recRows l).length, [.rows g 2 (recRows l)], conv_pick1 hr (recRows_row l) (recRows_plain l) ?_, .inr ⟨g, rfl, rfl⟩⟩
      simp
      exact ⟨.refl (cl_plain (rowsU8_plain b)), by simpa using cv_slice (i := 0) rfl, .refl .int⟩
  obtain ⟨c', H', hconv, hacc'⟩ := conv
  refine vc_conv hconv ?_
  have done : rest = [] → scanB b = (l, rest, 0) := by
    intro h
    subst h
    rw [hscan]
    cases f <;> simp [scanF]
  have eat : (at' : Int) = (b.length : Int) - rest.length := by omega
  have fin0 : ∀ (c : AV) (H : Heap), AccL 2 (recRows l) c H → rest = [] → Fin [] (.tup [c, .int .i64 at', .int .u8 0]) H (scanV b) [] := by
    intro c H hc h
    unfold scanV
    rw [done h, eat]
    exact fin_drop (CVs.cons (hc.freeze (recRows_row l) (recRows_plain l)) (CVs.cons (.refl .int) (CVs.cons (.refl .int) .nil))).tup
  have finE : ∀ (c : AV) (H : Heap) (e : Nat), AccL 2 (recRows l) c H → rest ≠ [] → oneB rest l.length = .inr e → Fin [] (.tup [c, .int .i64 at', .int .u8 (e : Nat)]) H (scanV b) [] := by
    intro c H e hc h ho
    obtain ⟨f', rfl⟩ : ∃ f', f = f' + 1 := ⟨f - 1, by have := List.length_pos_iff.2 h; omega⟩
    have : scanB b = (l, rest, e) := by
      rw [hscan]
      simp [scanF, h, ho]
    unfold scanV
    rw [this, eat]
    exact fin_drop (CVs.cons (hc.freeze (recRows_row l) (recRows_plain l)) (CVs.cons (.refl .int) (CVs.cons (.refl .int) .nil))).tup
  have step : ∀ (c2 : AV) (H2 : Heap) (k : UInt8) (d : List UInt8) (q : Int), oneB rest l.length = .inl (k, d) → rest ≠ [] → AccL 2 (recRows (l ++ [(k, d)])) c2 H2 → q = at' + (14 + d.length) →
      ∃ m, m < rest.length ∧ ∃ (l' : List Rcd) (rest' : List UInt8), m = rest'.length ∧ l'.length ≤ 1048576 ∧ ∃ x, rest'.length ≤ x ∧ rest'.length ≤ b.length ∧ ∃ x1 x2,
        x2 + rest'.length = b.length ∧ rest' = b.drop x2 ∧ scanB b = (l' ++ (scanF x rest' l'.length).1, (scanF x rest' l'.length).2) ∧ AccL 2 (recRows l') x1 H2 ∧ c2 = x1 ∧ q = (x2 : Nat) := by
    intro c2 H2 k d q ho hne h2 hq
    obtain ⟨f', rfl⟩ : ∃ f', f = f' + 1 := ⟨f - 1, by have := List.length_pos_iff.2 hne; omega⟩
    obtain ⟨k1, k2, k3⟩ := one_ok ho
    have hdl : (rest.drop (14 + d.length)).length = rest.length - (14 + d.length) := by simp
    refine ⟨(rest.drop (14 + d.length)).length, by omega, l ++ [(k, d)], rest.drop (14 + d.length), rfl, by simp; omega, f', by omega, by omega, c2, at' + (14 + d.length), by omega, by rw [hre, List.drop_drop], ?_, h2, rfl, by omega⟩
    rw [hscan]
    simp [scanF, hne, ho]
  have e14 : ∀ d : List UInt8, 14 + d.length ≤ rest.length → wrp .i64 ((at' : Int) + (14 + (d.length : Nat))) = (at' : Int) + (14 + (d.length : Nat)) := fun d h => wrp_i64 (by omega)
  have hat0 : (0 : Int) ≤ at' := by omega
  have hat1 : at' ≤ b.length := by omega
  have hat2 : (at' : Int) < b.length ↔ rest ≠ [] := by
    rw [← List.length_pos_iff]; omega
  have hlen := hacc'.len
  have hlt : ((recRows l).length : Int) = l.length := by simp
  obtain ⟨N, hN⟩ := hacc'.grown
  simp [m20r3, -List.append_eq]
  refine ⟨fun hpos => ?_, fun hz => ?_⟩
  · have hne := hat2.1 (by omega)
    have hrow := rowsU8_row b
    have htk : List.take (b.length - at') (rowsU8 rest) = rowsU8 rest := List.take_of_length_le (by simp; omega)
    simp [m20r4, hlen, hat1, rowsU8_drop, ← hre, htk]
    refine ⟨hrow, ?_⟩
    refine vc_call ((one35 rest l.length hl (by omega)).frame (Cls.cons (cl_plain (rowsU8_plain _)) (Cls.cons .int .nil)) (cl_oneV _ _) _) ?_
    unfold oneV
    cases ho : oneB rest l.length with
    | inr e =>
      have he := one_err ho
      have he0 : ¬ (e : Int) = 0 := by omega
      simp [m20r5, m20r6, he.1]
      exact finE _ _ e (acc1_L hacc') hne ho
    | inl kd =>
      obtain ⟨k, d⟩ := kd
      have hd := e14 d (one_ok ho).2.1
      simp [m20r5, m20r7, recV]
      refine accL_append (acc1_L hacc') rfl (by intro q hq; simp at hq; subst hq; rfl) (by simp [roomB]; omega) fun c2 H2 h2 => ?_
      have e2 : recRows l ++ [recV k d] = recRows (l ++ [(k, d)]) := by simp [recRows]
      simp [m20r8, hd]
      exact step c2 H2 k d _ ho hne (by rw [← e2]; exact h2) rfl
  · simp [m20r10]
    refine fin0 _ _ ?_ (by
      have : rest.length = 0 := by omega
      exact List.length_eq_zero_iff.1 this)
    have := acc1_L (J := []) hacc'
    rwa [List.append_nil] at this
end Go.Ab.Try.S
