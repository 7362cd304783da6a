/- The law of known examples, worked out by the evaluator. Conditions: none. -/
import Derived.Test.YtomcdnibcdojcaaJ33FnA
import Derived.Test.YtomcdnibcdojcaaAbLaw
namespace Go.Ab.Try
open Go.Proofs

theorem mixed : Try.prog.follows .mixedOrders = true := by kernel_rfl
def tbl : List (Nat × MFunc) := [(4, m4), (7, m7), (8, m8), (9, m9), (10, m10), (11, m11), (12, m12), (13, m13), (17, m17), (18, m18), (19, m19), (20, m20), (21, m21), (22, m22), (25, m25), (26, m26), (27, m27), (30, m30), (31, m31), (32, m32), (33, m33), (36, m36), (37, m37), (38, m38), (39, m39), (40, m40), (41, m41), (42, m42), (43, m43), (44, m44), (45, m45), (46, m46), (50, m50), (51, m51), (52, m52), (53, m53), (54, m54), (55, m55), (56, m56)]
theorem tbl_ok : Tbl Try.prog tbl := .cons m4_ok (.cons m7_ok (.cons m8_ok (.cons m9_ok (.cons m10_ok (.cons m11_ok (.cons m12_ok (.cons m13_ok (.cons m17_ok (.cons m18_ok (.cons m19_ok (.cons m20_ok (.cons m21_ok (.cons m22_ok (.cons m25_ok (.cons m26_ok (.cons m27_ok (.cons m30_ok (.cons m31_ok (.cons m32_ok (.cons m33_ok (.cons m36_ok (.cons m37_ok (.cons m38_ok (.cons m39_ok (.cons m40_ok (.cons m41_ok (.cons m42_ok (.cons m43_ok (.cons m44_ok (.cons m45_ok (.cons m46_ok (.cons m50_ok (.cons m51_ok (.cons m52_ok (.cons m53_ok (.cons m54_ok (.cons m55_ok (.cons m56_ok (.nil)))))))))))))))))))))))))))))))))))))))

theorem known_eval : isTrue (evFn (look tbl) 100000 100 4 [] []) = true := by kernel_rfl
end Go.Ab.Try
