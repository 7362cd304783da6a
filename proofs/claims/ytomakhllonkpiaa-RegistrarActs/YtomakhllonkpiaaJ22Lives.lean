/- lives: the examples that every law of this chapter checks. Conditions: none. -/
import Derived.Test.YtomakhllonkpiaaJ22FnA
import Derived.Test.YtomakhllonkpiaaAbEval2
import Derived.Test.YtomakhllonkpiaaJ22Ov
import Derived.Test.YtomakhllonkpiaaAbFrame
namespace Go.Ab.Try
open Go.Proofs

theorem mixed : Try.prog.follows .mixedOrders = true := by kernel_rfl
def tbl : List (Nat × MFunc) := [(8, m8), (9, m9), (11, m11), (13, m13), (15, m15), (18, m18), (19, m19), (20, m20), (21, m21), (22, m22), (23, m23), (24, m24), (29, m29), (30, m30), (31, m31), (33, m33), (34, m34), (37, m37), (38, m38), (39, m39), (44, m44), (45, m45), (46, m46), (47, m47), (48, m48), (49, m49), (50, m50), (51, m51), (53, m53), (54, m54), (55, m55), (56, m56), (57, m57), (58, m58), (59, m59), (60, m60), (61, m61), (62, m62), (63, m63), (64, m64), (65, m65), (66, m66), (67, m67), (68, m68), (69, m69), (70, m70), (71, m71), (72, m72), (73, m73), (74, m74), (75, m75), (76, m76), (77, m77), (78, m78)]
theorem tbl_ok : Tbl Try.prog tbl := .cons m8_ok (.cons m9_ok (.cons m11_ok (.cons m13_ok (.cons m15_ok (.cons m18_ok (.cons m19_ok (.cons m20_ok (.cons m21_ok (.cons m22_ok (.cons m23_ok (.cons m24_ok (.cons m29_ok (.cons m30_ok (.cons m31_ok (.cons m33_ok (.cons m34_ok (.cons m37_ok (.cons m38_ok (.cons m39_ok (.cons m44_ok (.cons m45_ok (.cons m46_ok (.cons m47_ok (.cons m48_ok (.cons m49_ok (.cons m50_ok (.cons m51_ok (.cons m53_ok (.cons m54_ok (.cons m55_ok (.cons m56_ok (.cons m57_ok (.cons m58_ok (.cons m59_ok (.cons m60_ok (.cons m61_ok (.cons m62_ok (.cons m63_ok (.cons m64_ok (.cons m65_ok (.cons m66_ok (.cons m67_ok (.cons m68_ok (.cons m69_ok (.cons m70_ok (.cons m71_ok (.cons m72_ok (.cons m73_ok (.cons m74_ok (.cons m75_ok (.cons m76_ok (.cons m77_ok (.cons m78_ok (.nil))))))))))))))))))))))))))))))))))))))))))))))))))))))

def modes : List (Nat × Nat) := [(8, 1), (9, 1), (11, 1), (13, 2), (15, 2), (19, 1), (20, 2), (21, 2), (23, 2), (24, 2), (29, 1), (30, 1), (31, 1), (37, 1), (38, 1), (39, 1), (44, 2), (45, 2), (46, 2), (47, 2), (48, 1), (49, 2), (50, 2), (51, 2), (53, 1), (54, 1), (55, 1), (56, 1), (57, 2), (59, 1), (60, 1), (61, 1), (62, 1), (63, 2), (64, 2), (65, 1), (66, 1), (68, 1), (70, 1), (71, 1), (72, 2), (73, 1), (76, 1)]
def ov (f : Nat) : Option (List AV → Heap → Option (AV × Heap)) := if Nat.beq f 68 = true then some S.checkOv else none
theorem ov_ok : ∀ f g, ov f = some g → ∀ args H v H', g args H = some (v, H') → Spec Try.prog f args H v H' := by
  intro f g h
  unfold ov at h
  split at h
  · rename_i hf
    cases h
    have : f = 68 := by simpa using hf
    subst this
    exact S.checkOv_ok
  · cases h

theorem lives_eval : isTrue (evFnP ov (lookN modes) (look tbl) 100000 100 8 [] []) = true := by kernel_rfl
theorem lives8 (H : Heap) : Spec Try.prog 8 [] H (.bool true) H := by
  obtain ⟨H', h⟩ := true_of_evalP mixed tbl_ok ov_ok lives_eval
  exact h.frame (fun i c h => by simp at h) .bool H
end Go.Ab.Try
