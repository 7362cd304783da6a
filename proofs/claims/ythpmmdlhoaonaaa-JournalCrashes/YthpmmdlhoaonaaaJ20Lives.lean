/- lives: the examples that every law of this chapter checks. Conditions: none. -/
import Derived.Test.YthpmmdlhoaonaaaJ20FnV
import Derived.Test.YthpmmdlhoaonaaaAbEval2
namespace Go.Ab.Try.S
open Go.Proofs
open Go.Ab.Try.V

theorem mixed' : Try.prog.follows .mixedOrders = true := by kernel_rfl
def ltbl : List (Nat × MFunc) := [(11, m11), (12, m12), (14, m14), (18, m18), (19, m19), (25, m25), (27, m27), (32, m32), (34, m34), (37, m37)]
theorem ltbl_ok : Tbl Try.prog ltbl := .cons m11_ok (.cons m12_ok (.cons m14_ok (.cons m18_ok (.cons m19_ok (.cons m25_ok (.cons m27_ok (.cons m32_ok (.cons m34_ok (.cons m37_ok .nil)))))))))
def lmodes : List (Nat × Nat) := [(12, 2), (14, 1), (18, 2), (19, 1), (25, 2), (27, 1), (34, 2), (37, 1)]
theorem lives_eval : isTrue (evFnP (fun _ => none) (lookN lmodes) (look ltbl) 100000 100 11 [] []) = true := by kernel_rfl
theorem lives11 (H : Heap) : Spec Try.prog 11 [] H (.bool true) H := by
  obtain ⟨H', h⟩ := true_of_evalP mixed' ltbl_ok no_ov lives_eval
  exact h.frame (fun i c h => by simp at h) .bool H
end Go.Ab.Try.S
