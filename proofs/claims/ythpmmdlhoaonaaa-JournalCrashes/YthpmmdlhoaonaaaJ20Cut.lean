/- few and write: the journal of some records. Conditions: none. -/
import Derived.Test.YthpmmdlhoaonaaaJ20Same
import Derived.Test.YthpmmdlhoaonaaaJ20FnW2
namespace Go.Ab.Try.S
open Go.Proofs

def fewF : List Rcd → List Rcd → List Rcd
  | [], acc => acc
  | r :: t, acc => if acc.length < 20 then fewF t (if r.2.length ≤ 200 then acc ++ [r] else acc) else acc
def fewB (l : List Rcd) : List Rcd := fewF l []

theorem fewF_ok : ∀ (l acc : List Rcd), acc.length ≤ 20 → (∀ r ∈ acc, r.2.length ≤ 200) → (fewF l acc).length ≤ 20 ∧ ∀ r ∈ fewF l acc, r.2.length ≤ 200
  | [], acc, h1, h2 => ⟨h1, h2⟩
  | r :: t, acc, h1, h2 => by
    unfold fewF
    split
    · split
      · rename_i h3 h4
        refine fewF_ok t _ (by simp; omega) fun x hx => ?_
        rcases List.mem_append.1 hx with h | h
        · exact h2 x h
        · simp at h; subst h; exact h4
      · exact fewF_ok t acc h1 h2
    · exact ⟨h1, h2⟩

theorem few16 (l : List Rcd) (hl : l.length ≤ 9223372036854775807) : Spec Try.prog 16 [.islice (recRows l)] [] (.islice (recRows (fewB l))) [] := by
  refine spec_of_wp (C := Spec Try.prog) (fun _ _ _ _ _ h => h) mixed m16_ok (show 1 ≤ _ by decide) ?_
  unfold m16
  simp [m16r0, m16r1, envOf, m16r2]
  refine vc_loop (fun m σ H => ∃ (j : Nat) (acc : List Rcd) (c : AV), m = l.length - j ∧ j ≤ l.length ∧ acc.length ≤ 20 ∧ fewB l = fewF (l.drop j) acc ∧ AccL 2 (recRows acc) c H ∧ σ = [(0, .islice (recRows l)), (3, c), (4, .int .i64 j)]) l.length
    ⟨0, [], .nils, by omega, by omega, by simp, rfl, .inl ⟨rfl, rfl⟩, rfl⟩ ?_
  rintro m σ H ⟨j, acc, c, rfl, hj, ha, hf, hacc, rfl⟩
  have hlen := hacc.len
  have stop : ¬ (j < l.length ∧ acc.length < 20) → fewB l = acc := by
    intro h
    rw [hf]
    by_cases h1 : j < l.length
    · rw [List.drop_eq_getElem_cons h1]
      unfold fewF
      rw [if_neg (fun h2 => h ⟨h1, h2⟩)]
    · rw [List.drop_of_length_le (by omega)]; rfl
  simp +contextual (disch := first | trivial | assumption | omega | (simp +contextual; done) | (simp +contextual; omega)) [m16l7, m16r3, m16r8, hlen]
  refine ⟨fun h1 h2 => ?_, fun h => ?_⟩
  · have hj' : j < l.length := by omega
    have z1 : wrp .i64 ((j : Int) + 1) = j + 1 := wrp_i64 (by omega)
    have nxt : fewB l = fewF (l.drop (j + 1)) (if l[j].2.length ≤ 200 then acc ++ [l[j]] else acc) := by
      rw [hf, List.drop_eq_getElem_cons hj']
      exact if_pos (by omega)
    simp +contextual (disch := first | trivial | assumption | omega | (simp +contextual; done) | (simp +contextual; omega)) [m16r4, m16r5, m16r6, iaddr_is, rec_get, hj', recV, z1]
    refine ⟨fun h3 => ?_, fun h3 => ?_⟩
    · refine accL_append hacc rfl (by intro q hq; simp at hq; subst hq; rfl) (by simp [roomB]; omega) fun c2 H2 h => ?_
      have e2 : recRows acc ++ [[.int .u8 l[j].1.toNat, .islice (rowsU8 l[j].2)]] = recRows (acc ++ [l[j]]) := by simp [recRows, recV]
      rw [e2] at h
      rw [if_pos (by omega)] at nxt
      exact ⟨l.length - (j + 1), by omega, j + 1, rfl, by omega, acc ++ [l[j]], by simp; omega, nxt, c2, h, rfl, by omega⟩
    · rw [if_neg (by omega)] at nxt
      exact ⟨l.length - (j + 1), by omega, j + 1, rfl, by omega, acc, ha, nxt, c, hacc, rfl, by omega⟩
  · rw [stop (by intro h1; have := h h1.1; omega)]
    exact fin_drop (hacc.freeze (recRows_row acc) (recRows_plain acc))

/-! ### write -/
def jrnF : Nat → List Rcd → List UInt8
  | _, [] => []
  | n, r :: t => encB n r.1 r.2 ++ jrnF (n + 1) t
def endsF : Nat → List Rcd → List Nat
  | _, [] => []
  | a, r :: t => (a + 14 + r.2.length) :: endsF (a + 14 + r.2.length) t
def jrnB (l : List Rcd) : List UInt8 := jrnF 0 l
def rowsI64 (l : List Nat) : List Row := l.map fun n => [.int .i64 (n : Nat)]

theorem jrnF_app : ∀ (l : List Rcd) (n : Nat) (r : Rcd), jrnF n (l ++ [r]) = jrnF n l ++ encB (n + l.length) r.1 r.2
  | [], n, r => by simp [jrnF]
  | x :: t, n, r => by simp [jrnF, jrnF_app t, Nat.add_assoc, Nat.add_comm 1]
theorem endsF_app : ∀ (l : List Rcd) (a n : Nat) (r : Rcd), endsF a (l ++ [r]) = endsF a l ++ [a + (jrnF n l).length + 14 + r.2.length]
  | [], a, n, r => by simp [endsF, jrnF]
  | x :: t, a, n, r => by
    simp only [List.cons_append, endsF, endsF_app t _ (n + 1) r, jrnF, List.length_append, enc_len]
    congr 4
    omega
theorem jrn_le : ∀ (l : List Rcd) (n : Nat), (∀ r ∈ l, r.2.length ≤ 200) → (jrnF n l).length ≤ 214 * l.length
  | [], n, h => by simp [jrnF]
  | x :: t, n, h => by
    have h1 := h x (by simp)
    have h2 := jrn_le t (n + 1) (fun r hr => h r (by simp [hr]))
    simp only [jrnF, List.length_append, enc_len, List.length_cons]
    omega
theorem endsF_len : ∀ (l : List Rcd) (a : Nat), (endsF a l).length = l.length
  | [], a => rfl
  | x :: t, a => by simp [endsF, endsF_len t]
theorem rowsI64_row (l : List Nat) : ∀ row ∈ rowsI64 l, row.length = 1 := by
  intro row h
  simp only [rowsI64, List.mem_map] at h
  obtain ⟨x, _, rfl⟩ := h
  rfl
theorem rowsI64_plain (l : List Nat) : Plain (rowsI64 l) := by
  intro row h c hc
  simp only [rowsI64, List.mem_map] at h
  obtain ⟨x, _, rfl⟩ := h
  simp at hc
  subst hc
  exact ⟨rfl, .int⟩
@[simp] theorem rowsI64_len (l : List Nat) : (rowsI64 l).length = l.length := by simp [rowsI64]

def writeV (l : List Rcd) : AV := .tup [.agg (logV (jrnB l) 0 (l.length : Nat)), .islice (rowsI64 (endsF 0 l)), .bool true]
theorem cl_writeV (l : List Rcd) : Cl 0 (writeV l) := (Cls.cons (cl_log _ _ _) (Cls.cons (cl_plain (rowsI64_plain _)) (Cls.cons .bool .nil))).tup

theorem app_ok {b : List UInt8} {c : Nat} {k : UInt8} {d : List UInt8} (hc : c < 1048576) (hd : d.length ≤ 4096) : appV b 0 c k d = .tup [.agg (logV (b ++ encB c k d) 0 ((c : Int) + 1)), .int .u8 0] := by
  have h1 : validB b 0 c = true := by simp [validB]; omega
  have : appL b 0 c k d = (b ++ encB c k d, 0, (c : Int) + 1, 0) := by
    unfold appL
    rw [if_neg (by rw [h1]; simp), if_neg (by omega), if_neg (by omega), Int.toNat_natCast]
  unfold appV
  rw [this]
  rfl

theorem bcv_log {J : Heap} {ks : List Nat} {x : AV} {b : List UInt8} {p q : Int} (hx : x = .islice (rowsU8 b) ∨ (x = .nils ∧ b = [])) : BCV 0 J ks (.rows 0 3 [[x, .int .i64 p, .int .i64 q]]) (.rows 0 3 [logV b p q]) := by
  refine .rows rfl (by simp [logV]) fun i row j c h1 h2 => ?_
  match i with
  | 0 =>
    simp at h1
    subst h1
    match j with
    | 0 =>
      simp [logV] at h2
      subst h2
      refine ⟨⟨_, x, rfl, rfl, ?_⟩, rfl⟩
      rcases hx with rfl | ⟨rfl, rfl⟩
      · exact .refl (cl_plain (rowsU8_plain b))
      · exact .nil0
    | 1 => simp [logV] at h2; subst h2; exact ⟨⟨_, _, rfl, rfl, .refl .int⟩, rfl⟩
    | 2 => simp [logV] at h2; subst h2; exact ⟨⟨_, _, rfl, rfl, .refl .int⟩, rfl⟩
    | j + 3 => simp [logV] at h2
  | i + 1 => simp at h1

/-- The loop of write. -/
def WInv (l : List Rcd) (m : Nat) (σ : Env) (H : Heap) : Prop := ∃ (j : Nat) (c x y : AV), m = l.length - j ∧ j ≤ l.length ∧ (x = .islice (rowsU8 []) ∨ (x = .nils ∧ ([] : List UInt8) = [])) ∧ (y = .islice (rowsU8 (jrnB (l.take j))) ∨ (y = .nils ∧ jrnB (l.take j) = [])) ∧
      H[0]? = some (.rows 0 3 [[x, .int .i64 0, .int .i64 0]]) ∧ H[1]? = some (.rows 0 3 [[y, .int .i64 0, .int .i64 j]]) ∧ AccL 1 (rowsI64 (endsF 0 (l.take j))) c H ∧ (∀ r g a n, c = .slice r g a n → r ≠ 0 ∧ r ≠ 1) ∧
      σ = [(0, .islice (recRows l)), (2, .ptr 0 0 0 0), (5, .ptr 1 0 0 0), (6, c), (7, .int .i64 j)]

theorem write_conv {l : List Rcd} {j : Nat} {c x y : AV} {H : Heap} (hx : x = .islice (rowsU8 []) ∨ (x = .nils ∧ ([] : List UInt8) = [])) (hy : y = .islice (rowsU8 (jrnB (l.take j))) ∨ (y = .nils ∧ jrnB (l.take j) = []))
    (h0 : H[0]? = some (.rows 0 3 [[x, .int .i64 0, .int .i64 0]])) (h1 : H[1]? = some (.rows 0 3 [[y, .int .i64 0, .int .i64 j]])) (hacc : AccL 1 (rowsI64 (endsF 0 (l.take j))) c H) (hne : ∀ r g a n, c = .slice r g a n → r ≠ 0 ∧ r ≠ 1) :
    ∃ c' H', Conv [] [(0, .islice (recRows l)), (2, .ptr 0 0 0 0), (5, .ptr 1 0 0 0), (6, c), (7, .int .i64 j)] H [(0, .islice (recRows l)), (2, .ptr 0 0 0 0), (5, .ptr 1 0 0 0), (6, c'), (7, .int .i64 j)] H' ∧
      Acc1 [.rows 0 3 [logV [] 0 0], .rows 0 3 [logV (jrnB (l.take j)) 0 j]] 1 (rowsI64 (endsF 0 (l.take j))) c' H' := by
  rcases hacc with ⟨e1, rfl⟩ | ⟨r, g, rfl, hr⟩
  · refine ⟨.nils, _, conv_picks (ks := [0, 1]) (J' := [.rows 0 3 [logV [] 0 0], .rows 0 3 [logV (jrnB (l.take j)) 0 j]]) rfl (by decide) (fun i k b' a1 a2 => ?_) ?_, .inl ⟨e1, rfl, rfl⟩⟩
    · match i with
      | 0 => simp at a1 a2; subst a1 a2; exact ⟨_, h0, bcv_log hx⟩
      | 1 => simp at a1 a2; subst a1 a2; exact ⟨_, h1, bcv_log hy⟩
      | i + 2 => simp at a1
    · simp
      exact ⟨.refl (cl_plain (recRows_plain l)), cv_ptr rfl, cv_ptr rfl, .refl .nils, .refl .int⟩
  · obtain ⟨n0, n1⟩ := hne _ _ _ _ rfl
    refine ⟨.slice 2 g 0 (rowsI64 (endsF 0 (l.take j))).length, _, conv_picks (ks := [0, 1, r]) (J' := [.rows 0 3 [logV [] 0 0], .rows 0 3 [logV (jrnB (l.take j)) 0 j], .rows g 1 (rowsI64 (endsF 0 (l.take j)))]) rfl (by simp; omega) (fun i k b' a1 a2 => ?_) ?_, .inr ⟨g, rfl, rfl⟩⟩
    · match i with
      | 0 => simp at a1 a2; subst a1 a2; exact ⟨_, h0, bcv_log hx⟩
      | 1 => simp at a1 a2; subst a1 a2; exact ⟨_, h1, bcv_log hy⟩
      | 2 => simp at a1 a2; subst a1 a2; exact ⟨_, hr, bcv_plain (rowsI64_row _) (rowsI64_plain _)⟩
      | i + 3 => simp at a1
    · simp
      exact ⟨.refl (cl_plain (recRows_plain l)), cv_ptr rfl, cv_ptr rfl, by simpa using cv_slice (i := 2) (ks := [0, 1, r]) (J := H) (g := g) (a := 0) (m := (rowsI64 (endsF 0 (l.take j))).length) rfl, .refl .int⟩

theorem cl_app1 (b : List UInt8) (s c : Int) (k : UInt8) (d : List UInt8) : Cl 0 (appV b s c k d) := (Cls.cons (cl_log _ _ _) (Cls.cons .int .nil)).tup

theorem write17 (l : List Rcd) (hl : l.length ≤ 20) (hd : ∀ r ∈ l, r.2.length ≤ 200) : Spec Try.prog 17 [.islice (recRows l)] [] (writeV l) [] := by
  refine spec_of_wp (C := Spec Try.prog) (fun _ _ _ _ _ h => h) mixed W.m17_ok (show 1 ≤ _ by decide) ?_
  unfold W.m17
  simp [W.m17r0, W.m17r1, W.m17r2, W.m17r3, envOf]
  refine vc_loop (WInv l) l.length
    ⟨0, .nils, .nils, .nils, by omega, by omega, .inr ⟨rfl, rfl⟩, .inr ⟨rfl, rfl⟩, rfl, rfl, .inl ⟨rfl, rfl⟩, fun _ _ _ _ h => (by cases h), rfl⟩ ?_
  rintro m σ H ⟨j, c, x, y, rfl, hj, hx, hy, h0, h1, hacc, hne, rfl⟩
  simp [W.m17l13]
  obtain ⟨c', H', hconv, hacc'⟩ := write_conv hx hy h0 h1 hacc hne
  refine vc_conv hconv ?_
  clear hconv h0 h1 hx hy hacc hne
  obtain ⟨b, hb⟩ : ∃ b, b = jrnB (l.take j) := ⟨_, rfl⟩
  have hbl : b.length ≤ 214 * j := by
    have := jrn_le (l.take j) 0 (fun r hr => hd r (List.mem_of_mem_take hr))
    rw [hb]; refine Nat.le_trans this ?_
    simp; omega
  rw [← hb] at hacc'
  have fin0 : ∀ (c : AV) (H : Heap), AccL 1 (rowsI64 (endsF 0 (l.take j))) c H → l.length ≤ j → Fin [] (.tup [.agg (logV b 0 j), c, .bool true]) H (writeV l) [] := by
    intro c H hc h
    have hjl : j = l.length := by omega
    subst hjl
    rw [List.take_length] at hc hb
    unfold writeV
    rw [← hb]
    exact fin_drop (CVs.cons (.refl (cl_log _ _ _)) (CVs.cons (hc.freeze (rowsI64_row _) (rowsI64_plain _)) (CVs.cons (.refl .bool) .nil))).tup
  have close : ∀ (hlt : j < l.length) (c2 : AV) (H2 : Heap) (nb : List UInt8), nb = b ++ encB j l[j].1 l[j].2 → H2[0]? = some (.rows 0 3 [[.islice (rowsU8 []), .int .i64 0, .int .i64 0]]) → H2[1]? = some (.rows 0 3 [[.islice (rowsU8 nb), .int .i64 0, .int .i64 ((j : Int) + 1)]]) →
      AccL 1 (rowsI64 (endsF 0 (l.take j)) ++ [[.int .i64 (nb.length : Nat)]]) c2 H2 → (∀ r g a n, c2 = .slice r g a n → r ≠ 0 ∧ r ≠ 1) →
      ∃ m, m < l.length - j ∧ WInv l m [(0, .islice (recRows l)), (2, .ptr 0 0 0 0), (5, .ptr 1 0 0 0), (6, c2), (7, .int .i64 ((j : Int) + 1))] H2 := by
    intro hlt c2 H2 nb hnb a0 a1 a2 a3
    have et : l.take (j + 1) = l.take j ++ [l[j]] := by rw [List.take_succ_eq_append_getElem hlt]
    have ej : jrnB (l.take (j + 1)) = nb := by
      rw [et, hnb, hb]
      unfold jrnB
      rw [jrnF_app]
      simp [Nat.min_eq_left hj]
    have ee : rowsI64 (endsF 0 (l.take (j + 1))) = rowsI64 (endsF 0 (l.take j)) ++ [[.int .i64 (nb.length : Nat)]] := by
      rw [et, endsF_app _ _ 0]
      have : 0 + (jrnF 0 (l.take j)).length + 14 + l[j].2.length = nb.length := by
        rw [hnb, List.length_append, enc_len, hb]; unfold jrnB; omega
      rw [this]
      simp [rowsI64]
    exact ⟨l.length - (j + 1), by omega, j + 1, c2, .islice (rowsU8 []), .islice (rowsU8 nb), rfl, by omega, .inl rfl, .inl (by rw [ej]), a0, by rw [a1]; rfl, by rw [ee]; exact a2, a3, rfl⟩
  rcases hacc' with ⟨e1, rfl, rfl⟩ | ⟨g, rfl, rfl⟩
  · simp +contextual [W.m17r4, W.m17r14, logV]
    refine ⟨fun hlt => ?_, fun hge => ?_⟩
    · have hlt' : j < l.length := by omega
      have hm := hd _ (List.getElem_mem hlt')
      have ha := app_ok (b := b) (c := j) (k := l[j].1) (d := l[j].2) (by omega) (by omega)
      simp (disch := first | trivial | assumption | omega | (simp +contextual; done) | (simp +contextual; omega)) [W.m17r5, iaddr_is, rec_get, hlt', recV]
      refine vc_call ((append25 b 0 j l[j].1 l[j].2 (by omega) (by omega)).frame (Cls.cons (cl_log _ _ _) (Cls.cons (cl_rec _ _) .nil)) (cl_app1 _ _ _ _ _) _) ?_
      rw [ha]
      obtain ⟨nb, hnb⟩ : ∃ nb, nb = b ++ encB j l[j].1 l[j].2 := ⟨_, rfl⟩
      have hnl : nb.length = b.length + 14 + l[j].2.length := by rw [hnb, List.length_append, enc_len]; omega
      rw [← hnb]
      have w1 : wrp .i64 ((b.length : Int) + 14) = (b.length : Int) + 14 := wrp_i64 (by omega)
      have w2 : wrp .i64 ((b.length : Int) + 14 + (l[j].2.length : Nat)) = (b.length : Int) + 14 + (l[j].2.length : Nat) := wrp_i64 (by omega)
      have w3 : wrp .i64 ((j : Int) + 1) = (j : Int) + 1 := wrp_i64 (by omega)
      have w4 : (nb.length : Int) = (b.length : Int) + 14 + (l[j].2.length : Nat) := by omega
      simp (disch := first | trivial | assumption | omega | (simp +contextual; done) | (simp +contextual; omega)) [W.m17r6, W.m17r7, W.m17r8, W.m17r10, logV, putU, iaddr_is, rec_get, hlt', recV, w1, w2, w3, w4]
      simp [W.m17r11]
      refine W_of (append_nil (row := [.int .i64 (nb.length : Nat)]) (rest := []) rfl (by intro q hq; simp at hq; subst hq; rfl) (by simp [roomB])) ?_
      simp [W.m17r12, w3]
      refine close hlt' _ _ nb hnb rfl rfl (.inr ⟨3, 0, by simp [e1], by simp [e1]⟩) (fun r g a n h => by cases h; simp)
    · exact fin0 _ _ (.inl ⟨e1, rfl⟩) hge
  · simp +contextual [W.m17r4, W.m17r14, logV]
    refine ⟨fun hlt => ?_, fun hge => ?_⟩
    · have hlt' : j < l.length := by omega
      have hm := hd _ (List.getElem_mem hlt')
      have ha := app_ok (b := b) (c := j) (k := l[j].1) (d := l[j].2) (by omega) (by omega)
      simp (disch := first | trivial | assumption | omega | (simp +contextual; done) | (simp +contextual; omega)) [W.m17r5, iaddr_is, rec_get, hlt', recV]
      refine vc_call ((append25 b 0 j l[j].1 l[j].2 (by omega) (by omega)).frame (Cls.cons (cl_log _ _ _) (Cls.cons (cl_rec _ _) .nil)) (cl_app1 _ _ _ _ _) _) ?_
      rw [ha]
      obtain ⟨nb, hnb⟩ : ∃ nb, nb = b ++ encB j l[j].1 l[j].2 := ⟨_, rfl⟩
      have hnl : nb.length = b.length + 14 + l[j].2.length := by rw [hnb, List.length_append, enc_len]; omega
      rw [← hnb]
      have w1 : wrp .i64 ((b.length : Int) + 14) = (b.length : Int) + 14 := wrp_i64 (by omega)
      have w2 : wrp .i64 ((b.length : Int) + 14 + (l[j].2.length : Nat)) = (b.length : Int) + 14 + (l[j].2.length : Nat) := wrp_i64 (by omega)
      have w3 : wrp .i64 ((j : Int) + 1) = (j : Int) + 1 := wrp_i64 (by omega)
      have w4 : (nb.length : Int) = (b.length : Int) + 14 + (l[j].2.length : Nat) := by omega
      simp (disch := first | trivial | assumption | omega | (simp +contextual; done) | (simp +contextual; omega)) [W.m17r6, W.m17r7, W.m17r8, W.m17r10, logV, putU, iaddr_is, rec_get, hlt', recV, w1, w2, w3, w4]
      simp [W.m17r11]
      have e9 : (AV.slice 2 g 0 (endsF 0 (l.take j)).length) = .slice 2 g 0 (rowsI64 (endsF 0 (l.take j))).length := by simp
      rw [e9]
      refine W_app (rs := rowsI64 (endsF 0 (l.take j))) (news := [[.int .i64 (nb.length : Nat)]]) rfl rfl (by intro q hq; simp at hq; subst hq; rfl) (by simp [roomB, endsF_len]; omega) fun g' => ?_
      simp only [W.m17r12]
      simp [w3]
      refine close hlt' _ _ nb hnb rfl rfl (.inr ⟨2, g', by simp, rfl⟩) (fun r g a n h => by cases h; simp)
    · exact fin0 _ _ (.inr ⟨2, g, by simp, rfl⟩) hge
end Go.Ab.Try.S

/- What Scan reads from a journal that was written, or from a prefix of it. Conditions: none. -/
namespace Go.Ab.Try.S

theorem enc_cons (n : Nat) (k : UInt8) (d : List UInt8) : encB n k d = 167 :: k :: UInt8.ofNat (n / 256 ^ 3 % 256) :: UInt8.ofNat (n / 256 ^ 2 % 256) :: UInt8.ofNat (n / 256 ^ 1 % 256) :: UInt8.ofNat (n / 256 ^ 0 % 256) ::
    UInt8.ofNat (d.length / 256 ^ 1 % 256) :: UInt8.ofNat (d.length / 256 ^ 0 % 256) :: UInt8.ofNat ((65535 - d.length) / 256 ^ 1 % 256) :: UInt8.ofNat ((65535 - d.length) / 256 ^ 0 % 256) :: (d ++ numB (crc (encH n k d)) 4) := by
  simp [encB, encH, numB]

theorem encH_len (n : Nat) (k : UInt8) (d : List UInt8) : (encH n k d).length = 10 + d.length := by simp [encH, numB_len]; omega

theorem gb_cons0 (a : UInt8) (l : List UInt8) : gb (a :: l) 0 = a.toNat := rfl
theorem gb_consS (a : UInt8) (l : List UInt8) (i : Nat) : gb (a :: l) (i + 1) = gb l i := by simp [gb]

theorem ofNat_mod (x : Nat) : (UInt8.ofNat (x % 256)).toNat = x % 256 := by simp

theorem wrong_pre {t : List UInt8} {n : Nat} {k : UInt8} {d : List UInt8} (hd : d.length ≤ 4096) (h : ∀ i, i < t.length → i < 10 → gb t i = gb (encB n k d) i) : wrongB t n = false := by
  have e : ∀ i, i < 6 → i ≠ 1 → gb (encB n k d) i = gb (wantB n) i := by
    intro i hi h1
    rw [enc_cons]
    match i, hi, h1 with
    | 0, _, _ => rfl
    | 2, _, _ => rfl
    | 3, _, _ => rfl
    | 4, _, _ => rfl
    | 5, _, _ => rfl
  have e6 : gb (encB n k d) 6 = d.length / 256 := by rw [enc_cons]; simp only [gb_consS, gb_cons0, ofNat_mod]; omega
  have e7 : gb (encB n k d) 7 = d.length % 256 := by rw [enc_cons]; simp only [gb_consS, gb_cons0, ofNat_mod]; omega
  have e8 : gb (encB n k d) 8 = (65535 - d.length) / 256 := by rw [enc_cons]; simp only [gb_consS, gb_cons0, ofNat_mod]; omega
  have e9 : gb (encB n k d) 9 = (65535 - d.length) % 256 := by rw [enc_cons]; simp only [gb_consS, gb_cons0, ofNat_mod]; omega
  unfold wrongB
  have h1 : hdrBad t n = false := by
    unfold hdrBad
    rw [List.any_eq_false]
    intro i hi
    simp only [List.mem_range] at hi
    simp only [Bool.and_eq_true, decide_eq_true_eq, not_and, ne_eq, Decidable.not_not]
    intro ha
    rw [h i ha.1 (by omega), e i hi ha.2]
  rw [h1]
  simp only [Bool.false_or, Bool.or_eq_false_iff, Bool.and_eq_false_iff, decide_eq_false_iff_not, ne_eq, Decidable.not_not]
  refine ⟨?_, ?_, ?_⟩
  · by_cases hl : 8 ≤ t.length
    · right; rw [h 6 (by omega) (by omega), h 7 (by omega) (by omega), e6, e7]; omega
    · left; omega
  · by_cases hl : 9 ≤ t.length
    · right; rw [h 6 (by omega) (by omega), h 8 (by omega) (by omega), e6, e8]; omega
    · left; omega
  · by_cases hl : 10 ≤ t.length
    · right; rw [h 7 (by omega) (by omega), h 9 (by omega) (by omega), e7, e9]; omega
    · left; omega

theorem size_pre {t : List UInt8} {n : Nat} {k : UInt8} {d : List UInt8} (hl : 8 ≤ t.length) (hd : d.length ≤ 4096) (h : ∀ i, i < t.length → i < 10 → gb t i = gb (encB n k d) i) : sizeB t = d.length := by
  unfold sizeB
  rw [h 6 (by omega) (by omega), h 7 (by omega) (by omega), enc_cons]
  simp only [gb_consS, gb_cons0, ofNat_mod]
  omega

theorem gb_app {a b : List UInt8} {i : Nat} (h : i < a.length) : gb (a ++ b) i = gb a i := by
  simp only [gb, List.getD_eq_getElem?_getD, List.getElem?_append_left h]
theorem gb_take {a : List UInt8} {i s : Nat} (h : i < s) : gb (a.take s) i = gb a i := by
  simp only [gb, List.getD_eq_getElem?_getD, List.getElem?_take, if_pos h]

theorem oneB_ok {n : Nat} {k : UInt8} {d rest : List UInt8} (hn : n < 1048576) (hd : d.length ≤ 4096) : oneB (encB n k d ++ rest) n = .inl (k, d) := by
  have hp : ∀ i, i < (encB n k d ++ rest).length → i < 10 → gb (encB n k d ++ rest) i = gb (encB n k d) i := fun i _ h => gb_app (by rw [enc_len]; omega)
  have hl : 14 + d.length ≤ (encB n k d ++ rest).length := by rw [List.length_append, enc_len]; omega
  have hs := size_pre (by omega) hd hp
  have ht : (encB n k d ++ rest).take (10 + d.length) = encH n k d := by
    rw [← encH_len n k d]
    unfold encB
    rw [List.append_assoc, List.take_left]
  have hdr : (encB n k d ++ rest).drop (10 + d.length) = numB (crc (encH n k d)) 4 ++ rest := by
    rw [← encH_len n k d]
    unfold encB
    rw [List.append_assoc, List.drop_left]
  have := oneB0 (b := encB n k d ++ rest) hn (wrong_pre hd hp) (by rw [hs]; exact hl) (by
    rw [hs, ht, hdr]
    exact (List.take_left' (numB_len _ 4)).symm)
  rw [this, hs]
  have g1 : (encB n k d ++ rest).getD 1 0 = k := by rw [enc_cons]; rfl
  have g2 : ((encB n k d ++ rest).drop 10).take d.length = d := by
    rw [enc_cons]
    simp only [List.cons_append, List.drop_succ_cons, List.drop_zero, List.append_assoc]
    exact List.take_left
  rw [g1, g2]

theorem oneB_short {n s : Nat} {k : UInt8} {d rest : List UInt8} (hn : n < 1048576) (hd : d.length ≤ 4096) (hs : s < 14 + d.length) : oneB ((encB n k d ++ rest).take s) n = .inr 6 := by
  have hl : ((encB n k d ++ rest).take s).length = s := by rw [List.length_take, List.length_append, enc_len]; omega
  have hp : ∀ i, i < ((encB n k d ++ rest).take s).length → i < 10 → gb ((encB n k d ++ rest).take s) i = gb (encB n k d) i := fun i h1 h => by
    rw [gb_take (by omega)]; exact gb_app (by rw [enc_len]; omega)
  refine oneB6 hn (wrong_pre hd hp) ?_
  rw [hl]
  by_cases h8 : s < 14
  · omega
  · rw [size_pre (by omega) hd hp]; exact hs

theorem scan_cut : ∀ (l : List Rcd) (n f s : Nat), (∀ r ∈ l, r.2.length ≤ 4096) → n + l.length ≤ 1048576 → s ≤ (jrnF n l).length → s ≤ f →
    ∃ m, m ≤ l.length ∧ (jrnF n (l.take m)).length ≤ s ∧ (∀ h : m < l.length, s < (jrnF n (l.take m)).length + 14 + l[m].2.length) ∧ (scanF f ((jrnF n l).take s) n).1 = l.take m ∧
      (scanF f ((jrnF n l).take s) n).2.1.length = s - (jrnF n (l.take m)).length ∧ (scanF f ((jrnF n l).take s) n).2.2 = if s = (jrnF n (l.take m)).length then 0 else 6
  | [], n, f, s, hd, hn, hs, hf => by
    simp only [jrnF, List.length_nil, Nat.le_zero] at hs
    subst hs
    refine ⟨0, by simp, by simp [jrnF], fun h => by simp at h, ?_, ?_, ?_⟩ <;> cases f <;> simp [scanF, jrnF]
  | (k, d) :: t, n, f, s, hd, hn, hs, hf => by
    have h1 := hd (k, d) (by simp)
    simp only [List.length_cons] at hn
    simp only at h1
    by_cases h0 : s = 0
    · subst h0
      refine ⟨0, by simp, by simp [jrnF], fun h => by simp [jrnF]; omega, ?_, ?_, ?_⟩ <;> cases f <;> simp [scanF, jrnF]
    obtain ⟨f', rfl⟩ : ∃ f', f = f' + 1 := ⟨f - 1, by omega⟩
    by_cases hlt : s < 14 + d.length
    · have ho := oneB_short (rest := jrnF (n + 1) t) (k := k) (by omega : n < 1048576) h1 hlt
      have hll : ((encB n k d ++ jrnF (n + 1) t).take s).length = s := by rw [List.length_take, List.length_append, enc_len]; omega
      have hne : (encB n k d ++ jrnF (n + 1) t).take s ≠ [] := fun h => by rw [h] at hll; simp at hll; omega
      have e : scanF (f' + 1) ((jrnF n ((k, d) :: t)).take s) n = ([], (encB n k d ++ jrnF (n + 1) t).take s, 6) := by
        simp only [jrnF]
        unfold scanF
        rw [if_neg hne, ho]
      rw [e]
      refine ⟨0, by simp, by simp [jrnF], fun h => by simp [jrnF]; omega, by simp, by simpa [jrnF] using hll, by simp [jrnF, h0]⟩
    · have hle : 14 + d.length ≤ s := by omega
      have hel := enc_len n k d
      have es : (jrnF n ((k, d) :: t)).take s = encB n k d ++ (jrnF (n + 1) t).take (s - (14 + d.length)) := by
        simp only [jrnF]
        rw [List.take_append, hel, List.take_of_length_le (by omega)]
      have ho := oneB_ok (rest := (jrnF (n + 1) t).take (s - (14 + d.length))) (k := k) (by omega : n < 1048576) h1
      have hne : encB n k d ++ (jrnF (n + 1) t).take (s - (14 + d.length)) ≠ [] := by rw [enc_cons]; simp
      have hdr : (encB n k d ++ (jrnF (n + 1) t).take (s - (14 + d.length))).drop (14 + d.length) = (jrnF (n + 1) t).take (s - (14 + d.length)) := by
        rw [← hel, List.drop_left]
      have e : scanF (f' + 1) ((jrnF n ((k, d) :: t)).take s) n = ((k, d) :: (scanF f' ((jrnF (n + 1) t).take (s - (14 + d.length))) (n + 1)).1, (scanF f' ((jrnF (n + 1) t).take (s - (14 + d.length))) (n + 1)).2) := by
        rw [es]
        rw [scanF, if_neg hne, ho]
        simp only [hdr]
      have hs2 : s - (14 + d.length) ≤ (jrnF (n + 1) t).length := by
        simp only [jrnF, List.length_append, hel] at hs; omega
      obtain ⟨m, m1, m2, m3, m4, m5, m6⟩ := scan_cut t (n + 1) f' (s - (14 + d.length)) (fun r hr => hd r (by simp [hr])) (by omega) hs2 (by omega)
      have ej : (jrnF n (((k, d) :: t).take (m + 1))).length = 14 + d.length + (jrnF (n + 1) (t.take m)).length := by simp [jrnF, hel]
      rw [e]
      refine ⟨m + 1, by simp; exact m1, by rw [ej]; omega, fun h => ?_, by simp [m4], by rw [ej, m5]; omega, ?_⟩
      · have := m3 (by simpa using h)
        rw [ej]
        simp only [List.getElem_cons_succ]
        omega
      · rw [m6, ej]
        by_cases hc : s - (14 + d.length) = (jrnF (n + 1) (t.take m)).length
        · rw [if_pos hc, if_pos (by omega)]
        · rw [if_neg hc, if_neg (by omega)]
end Go.Ab.Try.S
