/- live: the examples that every law of this chapter checks. Conditions: none. -/
import Derived.Test.YtomcdnibcdojcaaJ33FnL
import Derived.Test.YtomcdnibcdojcaaJ33Base
import Derived.Test.YtomcdnibcdojcaaAbLaw
import Derived.Test.YtomcdnibcdojcaaAbFrame
namespace Go.Ab.Try.S
open Go.Proofs

def ltbl : List (Nat × MFunc) := [(7, m7), (8, m8), (9, m9), (10, m10), (11, m11), (12, m12), (13, m13), (17, m17), (18, m18), (19, m19), (20, m20), (21, m21), (22, m22), (25, m25), (26, m26), (27, m27), (30, m30), (31, m31), (32, m32), (33, m33), (36, m36), (37, m37), (38, m38), (39, m39), (40, m40), (41, m41), (42, m42), (43, m43), (44, m44), (45, m45), (46, m46), (50, m50), (51, m51), (52, m52), (53, m53), (54, m54), (55, m55), (56, m56)]
theorem ltbl_ok : Tbl Try.prog ltbl := .cons m7_ok (.cons m8_ok (.cons m9_ok (.cons m10_ok (.cons m11_ok (.cons m12_ok (.cons m13_ok (.cons m17_ok (.cons m18_ok (.cons m19_ok (.cons m20_ok (.cons m21_ok (.cons m22_ok (.cons m25_ok (.cons m26_ok (.cons m27_ok (.cons m30_ok (.cons m31_ok (.cons m32_ok (.cons m33_ok (.cons m36_ok (.cons m37_ok (.cons m38_ok (.cons m39_ok (.cons m40_ok (.cons m41_ok (.cons m42_ok (.cons m43_ok (.cons m44_ok (.cons m45_ok (.cons m46_ok (.cons m50_ok (.cons m51_ok (.cons m52_ok (.cons m53_ok (.cons m54_ok (.cons m55_ok (.cons m56_ok (.nil))))))))))))))))))))))))))))))))))))))
theorem live_eval : isTrue (evFn (look ltbl) 100000 100 10 [] []) = true := by kernel_rfl
theorem live10 (H : Heap) : Spec Try.prog 10 [] H (.bool true) H := by
  obtain ⟨H', h⟩ := true_of_eval mixed ltbl_ok live_eval
  exact h.frame (fun i c h => by simp at h) .bool H
end Go.Ab.Try.S
