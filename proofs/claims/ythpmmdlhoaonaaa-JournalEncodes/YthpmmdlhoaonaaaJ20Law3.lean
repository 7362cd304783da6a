/- Check and Encode of the program and of the reference are the same: the law's function returns true. Conditions: none. -/
import Derived.Test.YthpmmdlhoaonaaaJ20Enc2
import Derived.Test.YthpmmdlhoaonaaaJ20Lives
namespace Go.Ab.Try.S
open Go.Proofs

theorem encV_len (n : Int) (k : UInt8) (d : List UInt8) : ∃ (b : List UInt8) (e : Nat), encV n k d = .tup [.islice (rowsU8 b), .int .u8 (e : Int)] := by
  unfold encV
  split
  · exact ⟨[], 3, rfl⟩
  · split
    · exact ⟨[], 4, rfl⟩
    · exact ⟨encB n.toNat k d, 0, rfl⟩

theorem cl_ir (n : Int) (k : UInt8) (d : List UInt8) : ∀ (i : Nat) c, [AV.int .i64 n, .agg (recV k d)][i]? = some c → Cl 0 c := by
  intro i c h
  match i with
  | 0 => simp at h; subst h; exact .int
  | 1 => simp at h; subst h; exact cl_rec k d
  | i + 2 => simp at h

theorem cl_one {c : AV} (hc : Cl 0 c) : ∀ (i : Nat) c', [c][i]? = some c' → Cl 0 c' := by
  intro i c' h
  match i with
  | 0 => simp at h; subst h; exact hc
  | i + 1 => simp at h

theorem cl_encV (n : Int) (k : UInt8) (d : List UInt8) : Cl 0 (encV n k d) := by
  obtain ⟨b, e, h⟩ := encV_len n k d
  rw [h]
  exact .tup fun i c h => by
    match i with
    | 0 => simp at h; subst h; exact cl_plain (rowsU8_plain b)
    | 1 => simp at h; subst h; exact .int
    | i + 2 => simp at h

theorem law3 (n : Int) (k : UInt8) (d b : List UInt8) : ∃ H', Spec Try.prog 3 [.int .i64 n, .agg (recV k d), .islice (rowsU8 b)] [] (.bool true) H' := by
  refine ⟨_, spec_of_wp (C := Spec Try.prog) (fun _ _ _ _ _ h => h) mixed m3_ok (show 3 ≤ 53 by decide) (H' := [.rows 0 2 [recV k d]]) ?_⟩
  unfold m3
  simp +contextual [m3r0, m3r1, envOf, recV, m3r2, m3r3]
  refine ⟨fun _ => vc_call (lives11 _) (by simp; exact fin_of rfl), fun h1 h2 => ?_⟩
  refine vc_call ((encode12 n k d (by omega)).frame (cl_ir n k d) (cl_encV n k d) _) ?_
  obtain ⟨x, e, hx⟩ := encV_len n k d
  rw [hx]
  simp [m3r4]
  refine vc_call ((rencode13 n k d (by omega)).frame (cl_ir n k d) (cl_encV n k d) _) ?_
  rw [hx]
  simp +contextual [m3r5]
  refine vc_call ((check14 b (by omega)).frame (cl_one (cl_plain (rowsU8_plain b))) .int _) ?_
  simp +contextual
  refine vc_call ((rcheck15 b (by omega)).frame (cl_one (cl_plain (rowsU8_plain b))) .int _) ?_
  simp +contextual [bytesOf_rowsU8]
  refine vc_call (lives11 _) ?_
  simp
  exact fin_of rfl
end Go.Ab.Try.S
