/- RegistrarActs, as a contract. Conditions: none. -/
import Derived.Test.YtomakhllonkpiaaJ22Plain3
import Derived.Test.YtomakhllonkpiaaJ22Enc2
import Derived.Test.YtomakhllonkpiaaJ22Same
import Derived.Test.YtomakhllonkpiaaJ22Law3
namespace Go.Ab.Try.S
open Go.Proofs

theorem same17z : Spec Try.prog 17 [.agg zrow, .agg zrow] [] (.bool true) [] := by
  refine spec_of_wp (C := Spec Try.prog) (fun _ _ _ _ _ h => h) mixed m17_ok (show 2 ≤ _ by decide) ?_
  unfold m17
  simp [m17r0, m17r1, envOf, zrow]
  refine vc_call (strs43z.frame (Cls.cons .nils (Cls.cons .nils .nil)) .bool _) ?_
  simp [m17r3]
  refine vc_loop (fun m σ H => H = [.rows 0 9 [zrow], .rows 0 9 [zrow]] ∧ σ = [(2, .ptr 0 0 0 0), (3, .ptr 1 0 0 0), (5, .int .i64 0)]) 0 ⟨rfl, rfl⟩ ?_
  rintro m σ H ⟨rfl, rfl⟩
  simp [m17l9, m17r4, m17r10, zrow]
  exact fin_bool rfl
theorem cl_zrow : Cl 0 (.agg zrow) := (Cls.cons .str (Cls.cons .str (Cls.cons .int (Cls.cons .bool (Cls.cons .nils (Cls.cons .int (Cls.cons .str (Cls.cons .int (Cls.cons .nils .nil))))))))).agg

/-- What EncodeAct gives. -/
structure EncR (now : Int) (r : Rg) (x : AV) (e : Int) (s : List UInt8) : Prop where
  eq : encV now r = .tup [x, .int .u8 e]
  cl : Cl 0 x
  st : ∀ H, strOfAV H x = some s
  ok : e = 0 → x = .islice (rowsU8 s) ∧ okA now r = true ∧ s = encA now r ∧ s.length ≤ 4096
theorem encR (now : Int) (r : Rg) : ∃ x e s, EncR now r x e s := by
  by_cases h : okA now r = true
  · by_cases h2 : 4096 < (encA now r).length
    · exact ⟨.nils, 4, [], by unfold encV; rw [if_pos h, if_pos h2], .nils, fun H => rfl, fun h => by cases h⟩
    · exact ⟨.islice (rowsU8 (encA now r)), 0, encA now r, by unfold encV; rw [if_pos h, if_neg h2], cl_plain (rowsU8_plain _), fun H => by simp [bytesOf_rowsU8], fun _ => ⟨rfl, h, rfl, by omega⟩⟩
  · exact ⟨.nils, 2, [], by unfold encV; rw [if_neg h], .nils, fun H => rfl, fun h => by cases h⟩
structure DecR (b : List UInt8) (n : Int) (row : Row) (g : Int) : Prop where
  eq : decV b = .tup [.int .i64 n, .agg row, .int .u8 g]
  cl : Cl 0 (.agg row)
  len : row.length = 9
  okr : okRow row = true
  same : Spec Try.prog 17 [.agg row, .agg row] [] (.bool true) []
  ok : g = 0 → ∃ r : Rg, row = r.row ∧ r.cs.length ≤ 1000 ∧ r.path.length ≤ 1000 ∧ okA n r = true ∧ encA n r = b
theorem ctD_len (b : List UInt8) : (ctD b).1.length ≤ 1000 := by
  have := cts_len (nx 1 (P7 b).2).1.toNat (nx 1 (P7 b).2).2
  have := nx1 (P7 b).2
  unfold ctD
  omega
theorem ptD_len (b : List UInt8) : (ptD b).1.length ≤ 1000 := by
  have := pts_len (nx 1 (ctD b).2).1.toNat (nx 1 (ctD b).2).2
  have := nx1 (ctD b).2
  unfold ptD
  omega
theorem decR (b : List UInt8) : ∃ n row g, DecR b n row g := by
  by_cases h1 : (ptD b).2.short = true
  · exact ⟨0, zrow, 6, by rw [decV_eq, endV, if_pos h1]; rfl, cl_zrow, rfl, rfl, same17z, fun h => by cases h⟩
  by_cases h2 : (decide (0 < (ptD b).2.b.length) || decide (1 < (P4 b).1) || !formedB (regD b) || !wi (P0 b).1 0 1099511627776) = true
  · exact ⟨0, zrow, 5, by rw [decV_eq, endV, if_neg h1, if_pos h2]; rfl, cl_zrow, rfl, rfl, same17z, fun h => by cases h⟩
  · have hc : (regD b).cs.length ≤ 1000 := ctD_len b
    have hp : (regD b).path.length ≤ 1000 := ptD_len b
    refine ⟨(P0 b).1, (regD b).row, 0, by rw [decV_eq, endV, if_neg h1, if_neg h2], cl_rg _, rfl, rfl, same17 _ (by omega) (by omega), fun _ => ⟨regD b, rfl, hc, hp, ?_, ?_⟩⟩
    · simp only [Bool.or_eq_true, Bool.not_eq_true', decide_eq_true_eq, not_or, Bool.not_eq_false] at h2
      simp [okA, h2]
    · simp only [Bool.or_eq_true, Bool.not_eq_true', decide_eq_true_eq, not_or, Bool.not_eq_false] at h2
      exact enc_dec (by simpa using h1) (by omega) h2.1.1.2

def T4 : MCode := (.seq (.seq (.region m4r13 [2, 11, 12, 103]) (.cond (.tmp 103) (.seq (.region m4r14 [2, 20, 21]) (.seq (.region m4r15 [122]) (.cond (.tmp 122) (.seq (.region m4r16 [6]) .ret) .skip))) .skip)) (.seq (.region m4r17 [6]) .ret))
def EQ4 (e : Ex) (σ : Env) (H1 : Heap) : Prop := (e = Ex.normal ∨ e = Ex.ret) ∧ Fin [] (σ.get 6) H1 (.bool true) []
theorem tail4 (b : List UInt8) (n : Int) (row : Row) (g : Int) (dr : DecR b n row g) (B : ABlk) (J : Heap) {σ : Env} (e2 : σ.get 2 = .islice (rowsU8 b)) (e11 : σ.get 11 = .int .i64 n) (e12 : σ.get 12 = .ptr 1 0 0 0) (e13 : σ.get 13 = .int .u8 g) :
    wpC (Spec Try.prog) [] T4 σ (B :: .rows 0 9 [row] :: J) EQ4 := by
  have htk : List.take 9 row = row := List.take_of_length_le (by rw [dr.len]; omega)
  have hlen := dr.len
  unfold T4
  simp [m4r13, e2, e11, e12, e13]
  refine ⟨fun hg => ?_, fun hg => ?_⟩
  · obtain ⟨r, rfl, hc, hp, hok, hen⟩ := dr.ok hg
    simp [m4r14]
    refine vc_call ((enc13 n r hc hp).frame (Cls.cons .int (Cls.cons (cl_rg _) .nil)) ?_ _) ?_
    · unfold encV
      rw [if_pos hok]
      split
      · exact (Cls.cons .nils (Cls.cons .int .nil)).tup
      · exact (Cls.cons (cl_plain (rowsU8_plain _)) (Cls.cons .int .nil)).tup
    unfold encV
    rw [if_pos hok, hen]
    by_cases hbig : 4096 < b.length
    · rw [if_pos hbig]
      simp [m4r15, m4r17]
      refine vc_call (lives8 _) ?_
      simp
      exact ⟨.inr rfl, fin_bool rfl⟩
    · rw [if_neg hbig]
      simp [m4r15, m4r17, bytesOf_rowsU8]
      refine vc_call (lives8 _) ?_
      simp
      exact ⟨.inr rfl, fin_bool rfl⟩
  · simp [m4r17]
    refine vc_call (lives8 _) ?_
    simp
    exact ⟨.inr rfl, fin_bool rfl⟩

theorem law4 (now : Int) (r : Rg) (b : List UInt8) (hbl : b.length < 9223372036854775808) : Spec Try.prog 4 [.int .i64 now, .agg r.row, .islice (rowsU8 b)] [] (.bool true) [] := by
  refine spec_of_wp (C := Spec Try.prog) (fun _ _ _ _ _ h => h) mixed m4_ok (show 3 ≤ _ by decide) ?_
  unfold m4
  simp [m4r0, envOf, m4r1]
  refine vc_call ((few7 r).frame (Cls.cons (cl_rg _) .nil) .bool _) ?_
  by_cases hf : fewB r = true ∧ b.length ≤ 6000
  · have hl := few_len hf.1
    have hb2 := hf.2
    have hb3 : ¬(6000 : Int) < b.length := by omega
    simp [hf.1, hb3, m4r3]
    obtain ⟨x, e, s, er⟩ := encR now r
    obtain ⟨n, row, g, dr⟩ := decR b
    refine vc_call ((enc13 now r (by omega) (by omega)).frame (Cls.cons .int (Cls.cons (cl_rg _) .nil)) ?_ _) ?_
    · rw [er.eq]; exact (Cls.cons er.cl (Cls.cons .int .nil)).tup
    rw [er.eq]
    simp [m4r4]
    refine vc_call ((enc14 now r (by omega) (by omega)).frame (Cls.cons .int (Cls.cons (cl_rg _) .nil)) ?_ _) ?_
    · rw [er.eq]; exact (Cls.cons er.cl (Cls.cons .int .nil)).tup
    rw [er.eq]
    simp [m4r5]
    refine vc_call ((dec15 b (by omega)).frame (Cls.cons (cl_plain (rowsU8_plain _)) .nil) ?_ _) ?_
    · rw [dr.eq]; exact (Cls.cons .int (Cls.cons dr.cl (Cls.cons .int .nil))).tup
    rw [dr.eq]
    simp [dr.len, dr.okr, m4r6]
    refine vc_call ((dec16 b (by omega)).frame (Cls.cons (cl_plain (rowsU8_plain _)) .nil) ?_ _) ?_
    · rw [dr.eq]; exact (Cls.cons .int (Cls.cons dr.cl (Cls.cons .int .nil))).tup
    rw [dr.eq]
    simp [dr.len, dr.okr]
    have htk : List.take 9 row = row := List.take_of_length_le (by rw [dr.len]; omega)
    simp [m4r7, er.st, dr.len, htk]
    refine vc_call (dr.same.frame (Cls.cons dr.cl (Cls.cons dr.cl .nil)) .bool _) ?_
    simp [m4r9]
    refine ⟨fun he => ?_, fun he => ?_⟩
    · obtain ⟨rfl, hok, hs, hsl⟩ := er.ok he
      simp [m4r10]
      refine vc_call ((dec15 s ?_).frame (Cls.cons (cl_plain (rowsU8_plain _)) .nil) ?_ _) ?_
      · omega
      · rw [hs, dec_enc hok]; exact (Cls.cons .int (Cls.cons (cl_rg _) (Cls.cons .int .nil))).tup
      rw [hs, dec_enc hok]
      simp [m4r11]
      refine vc_call ((same17 r (by omega) (by omega)).frame (Cls.cons (cl_rg _) (Cls.cons (cl_rg _) .nil)) .bool _) ?_
      simp
      exact to_seqs (tail4 b n row g dr _ _ rfl rfl rfl rfl)
    · exact to_seqs (tail4 b n row g dr _ _ rfl rfl rfl rfl)
  · have hl : Fin [] (.bool true) [ABlk.rows 0 9 [r.row]] (.bool true) [] := fin_bool rfl
    cases hfw : fewB r with
    | false =>
      simp [m4r2]
      refine vc_call (lives8 _) ?_
      simp
      exact hl
    | true =>
      have hb2 : ¬b.length ≤ 6000 := fun h => hf ⟨hfw, h⟩
      have hb3 : (6000 : Int) < b.length := by omega
      have hb4 : 6000 < b.length := by omega
      simp [hb3, m4r2]
      refine vc_call (lives8 _) ?_
      simp
      exact hl
end Go.Ab.Try.S
