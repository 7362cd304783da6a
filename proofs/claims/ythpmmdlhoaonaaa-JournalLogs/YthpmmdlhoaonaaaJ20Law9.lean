/- Valid, Append, Sync and Crash of the program and of the reference are the same: the law's function returns true. Conditions: none. -/
import Derived.Test.YthpmmdlhoaonaaaJ20Log
import Derived.Test.YthpmmdlhoaonaaaJ20FnL
namespace Go.Ab.Try.S
open Go.Proofs

theorem cl_sync (b : List UInt8) (s c : Int) : Cl 0 (syncV b s c) := by
  unfold syncV; split <;> exact cl_log _ _ _
theorem cl_app (b : List UInt8) (s c : Int) (k : UInt8) (d : List UInt8) : Cl 0 (appV b s c k d) := (Cls.cons (cl_log _ _ _) (Cls.cons .int .nil)).tup

theorem law9 (b : List UInt8) (s c : Int) (k : UInt8) (d : List UInt8) (keep : Int) : ∃ H', Spec Try.prog 9 [.agg (logV b s c), .agg (recV k d), .int .i64 keep] [] (.bool true) H' := by
  by_cases hbig : 5000 < (b.length : Int) ∨ 5000 < (d.length : Int)
  · refine ⟨_, spec_of_wp (C := Spec Try.prog) (fun _ _ _ _ _ h => h) mixed m9_ok (show 3 ≤ 70 by decide) (H' := [.rows 0 3 [logV b s c], .rows 0 2 [recV k d]]) ?_⟩
    unfold m9
    simp +contextual [m9r0, m9r1, envOf, recV, logV, m9r2]
    exact ⟨fun _ => vc_call (lives11 _) (by simp; exact fin_of rfl), fun h1 h2 => by omega⟩
  · have cb : Cls 0 [AV.agg (logV b s c)] := Cls.cons (cl_log b s c) .nil
    have cbk : Cls 0 [AV.agg (logV b s c), .int .i64 keep] := Cls.cons (cl_log b s c) (Cls.cons .int .nil)
    have cbr : Cls 0 [AV.agg (logV b s c), .agg (recV k d)] := Cls.cons (cl_log b s c) (Cls.cons (cl_rec k d) .nil)
    have hb : b.length ≤ 5000 := by omega
    have hr : b.length ≤ roomB := by simp [roomB]; omega
    obtain ⟨a1, a2, a3, a4, ha⟩ : ∃ a1 a2 a3 a4, appV b s c k d = .tup [.agg (logV a1 a2 a3), .int .u8 ((a4 : Nat) : Int)] := ⟨_, _, _, _, rfl⟩
    obtain ⟨y1, y2, y3, hy⟩ : ∃ y1 y2 y3, syncV b s c = .agg (logV y1 y2 y3) := by
      unfold syncV; split
      · exact ⟨_, _, _, rfl⟩
      · exact ⟨_, _, _, rfl⟩
    refine ⟨_, spec_of_wp (C := Spec Try.prog) (fun _ _ _ _ _ h => h) mixed m9_ok (show 3 ≤ 70 by decide) (H' := [.rows 0 3 [logV b s c], .rows 0 2 [recV k d], .rows 0 3 [logV a1 a2 a3], .rows 0 3 [logV a1 a2 a3]]) ?_⟩
    unfold m9
    simp +contextual [m9r0, m9r1, envOf, recV, logV, m9r2, m9r3]
    refine ⟨fun h => by omega, fun h1 h2 => ?_⟩
    refine vc_call ((append25 b s c k d (by omega) (by omega)).frame cbr (cl_app b s c k d) _) ?_
    rw [ha]
    simp +contextual [logV, m9r4]
    refine vc_call ((rappend26 b s c k d (by omega) (by omega)).frame cbr (cl_app b s c k d) _) ?_
    rw [ha]
    simp +contextual [logV, m9r5]
    refine vc_call ((valid27 b s c).frame cb .bool _) ⟨⟨[], by simp⟩, ?_⟩
    simp +contextual
    refine vc_call ((rvalid28 b s c).frame cb .bool _) ⟨⟨[], by simp⟩, ?_⟩
    simp +contextual
    refine vc_call ((samelog23 a1 a1 a2 a3 a2 a3).frame (Cls.cons (cl_log _ _ _) (Cls.cons (cl_log _ _ _) .nil)) .bool _) ⟨⟨[], by simp⟩, ?_⟩
    simp +contextual
    refine vc_call ((sync29 b s c hr).frame cb (cl_sync b s c) _) ⟨⟨[], by simp⟩, ?_⟩
    simp +contextual
    refine vc_call ((rsync30 b s c hr).frame cb (cl_sync b s c) _) ⟨⟨[], by simp⟩, ?_⟩
    simp +contextual [hy]
    refine vc_call ((samelog23 y1 y1 y2 y3 y2 y3).frame (Cls.cons (cl_log _ _ _) (Cls.cons (cl_log _ _ _) .nil)) .bool _) ⟨⟨[], by simp⟩, ?_⟩
    simp +contextual
    refine vc_call ((crash24 b s c keep hr).frame cbk (cl_plain (rowsU8_plain _)) _) ⟨⟨[], by simp⟩, ?_⟩
    simp +contextual [bytesOf_rowsU8]
    refine vc_call ((rcrash31 b s c keep hr).frame cbk (cl_plain (rowsU8_plain _)) _) ⟨⟨[], by simp⟩, ?_⟩
    simp +contextual [bytesOf_rowsU8, m9r6]
    refine vc_call (lives11 _) ?_
    simp
    exact fin_of rfl
end Go.Ab.Try.S
