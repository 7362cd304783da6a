/- Scan and Recover of the program and of the reference are the same: the law's function returns true. Conditions: none. -/
import Derived.Test.YthpmmdlhoaonaaaJ20Same
import Derived.Test.YthpmmdlhoaonaaaJ20FnL
import Derived.Test.YthpmmdlhoaonaaaJ20Lives
namespace Go.Ab.Try.S
open Go.Proofs

theorem scanF_count : ∀ (f : Nat) (b : List UInt8) (n : Nat), (scanF f b n).1.length ≤ f
  | 0, b, n => by simp [scanF]
  | f + 1, b, n => by
    unfold scanF
    split
    · simp
    · split
      · simp
      · rename_i d _
        have := scanF_count f (b.drop (14 + d.length)) (n + 1)
        simp only [List.length_cons]
        omega

theorem law7 (b : List UInt8) : ∃ H', Spec Try.prog 7 [.islice (rowsU8 b)] [] (.bool true) H' := by
  by_cases hbig : 20000 < (b.length : Int)
  · refine ⟨_, spec_of_wp (C := Spec Try.prog) (fun _ _ _ _ _ h => h) mixed m7_ok (show 1 ≤ _ by decide) (H' := []) ?_⟩
    unfold m7
    simp +contextual [m7r0, m7r1, envOf, m7r2, hbig]
    refine vc_call (lives11 _) ?_
    simp
    exact fin_of rfl
  · have hc := scanF_count b.length b 0
    obtain ⟨l, hl⟩ : ∃ l, l = (scanB b).1 := ⟨_, rfl⟩
    have hl2 : l.length < 9223372036854775807 := by rw [hl]; exact Nat.lt_of_le_of_lt hc (by omega)
    obtain ⟨a1, a2, a3, hr⟩ : ∃ a1 a2 a3, recovV b = .tup [.agg (logV a1 a2 a3), .islice (recRows l)] := ⟨_, _, _, by rw [hl]; rfl⟩
    obtain ⟨n, e, hs⟩ : ∃ n e, scanV b = .tup [.islice (recRows l), .int .i64 n, .int .u8 ((e : Nat) : Int)] := ⟨_, _, by rw [hl]; rfl⟩
    have cb : Cls 0 [AV.islice (rowsU8 b)] := Cls.cons (cl_plain (rowsU8_plain b)) .nil
    have crr : ∀ l, Cls 0 [AV.islice (recRows l), .islice (recRows l)] := fun l => Cls.cons (cl_plain (recRows_plain l)) (Cls.cons (cl_plain (recRows_plain l)) .nil)
    refine ⟨_, spec_of_wp (C := Spec Try.prog) (fun _ _ _ _ _ h => h) mixed m7_ok (show 1 ≤ _ by decide) (H' := [.rows 0 3 [logV a1 a2 a3], .rows 0 3 [logV a1 a2 a3]]) ?_⟩
    unfold m7
    simp +contextual [m7r0, m7r1, envOf, m7r2, hbig, m7r3]
    refine vc_call ((scan18 b (by omega)).frame cb (cl_scanV b) _) ?_
    rw [hs]
    simp [m7r4]
    refine vc_call ((rscan20 b (by omega)).frame cb (cl_scanV b) _) ?_
    rw [hs]
    simp [m7r5]
    refine vc_call ((recover21 b (by omega)).frame cb (cl_recovV b) _) ?_
    rw [hr]
    simp [m7r6, logV]
    refine vc_call ((rrecover22 b (by omega)).frame cb (cl_recovV b) _) ?_
    rw [hr]
    simp [m7r7, logV]
    refine vc_call ((same19 l l hl2).frame (crr l) .bool _) ?_
    simp
    refine vc_call ((samelog23 a1 a1 a2 a3 a2 a3).frame (Cls.cons (cl_log _ _ _) (Cls.cons (cl_log _ _ _) .nil)) .bool _) ?_
    simp
    refine vc_call ((same19 l l hl2).frame (crr l) .bool _) ?_
    simp
    refine vc_call (lives11 _) ?_
    simp
    exact fin_of rfl
end Go.Ab.Try.S
