/- lives: the examples that every law of this chapter checks. Conditions: none. -/
import Derived.Test.YtklidlkpdhjfdaaJ31FnV
import Derived.Test.YtklidlkpdhjfdaaAbLaw
import Derived.Test.YtklidlkpdhjfdaaAbFrame
namespace Go.Ab.Try.V
open Go.Proofs

theorem mixedL : Try.prog.follows .mixedOrders = true := by kernel_rfl
def ltbl : List (Nat × MFunc) := [(8, m8), (9, m9), (11, m11), (13, m13), (14, m14), (15, m15), (18, m18), (19, m19), (21, m21), (22, m22), (24, m24), (25, m25), (26, m26), (27, m27), (32, m32), (33, m33), (34, m34), (35, m35), (37, m37), (38, m38), (39, m39), (40, m40), (41, m41), (42, m42), (43, m43), (44, m44), (45, m45), (46, m46), (47, m47), (48, m48), (49, m49), (50, m50), (51, m51), (52, m52), (53, m53), (54, m54), (55, m55), (56, m56), (57, m57), (58, m58), (59, m59), (60, m60), (61, m61), (62, m62)]
theorem ltbl_ok : Tbl Try.prog ltbl := .cons m8_ok (.cons m9_ok (.cons m11_ok (.cons m13_ok (.cons m14_ok (.cons m15_ok (.cons m18_ok (.cons m19_ok (.cons m21_ok (.cons m22_ok (.cons m24_ok (.cons m25_ok (.cons m26_ok (.cons m27_ok (.cons m32_ok (.cons m33_ok (.cons m34_ok (.cons m35_ok (.cons m37_ok (.cons m38_ok (.cons m39_ok (.cons m40_ok (.cons m41_ok (.cons m42_ok (.cons m43_ok (.cons m44_ok (.cons m45_ok (.cons m46_ok (.cons m47_ok (.cons m48_ok (.cons m49_ok (.cons m50_ok (.cons m51_ok (.cons m52_ok (.cons m53_ok (.cons m54_ok (.cons m55_ok (.cons m56_ok (.cons m57_ok (.cons m58_ok (.cons m59_ok (.cons m60_ok (.cons m61_ok (.cons m62_ok (.nil))))))))))))))))))))))))))))))))))))))))))))

theorem lives_eval : isTrue (evFn (look ltbl) 100000 100 8 [] []) = true := by kernel_rfl
theorem lives8 (H : Heap) : Spec Try.prog 8 [] H (.bool true) H := by
  obtain ⟨H', h⟩ := true_of_eval mixedL ltbl_ok lives_eval
  exact h.frame (fun i c h => by simp at h) .bool H
end Go.Ab.Try.V
