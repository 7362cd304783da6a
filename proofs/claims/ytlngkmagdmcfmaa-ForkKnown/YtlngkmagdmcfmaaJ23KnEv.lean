/- The law of known examples, worked out by the evaluator. Conditions: none. -/
import Derived.Test.YtlngkmagdmcfmaaJ23FnA
import Derived.Test.YtlngkmagdmcfmaaAbLaw
namespace Go.Ab.Try
open Go.Proofs

theorem mixed : Try.prog.follows .mixedOrders = true := by kernel_rfl
def tbl : List (Nat × MFunc) := [(10, m10), (11, m11), (14, m14), (15, m15), (17, m17), (19, m19), (20, m20), (26, m26), (27, m27), (28, m28), (29, m29), (30, m30), (31, m31), (33, m33), (34, m34), (35, m35), (37, m37), (38, m38), (39, m39), (40, m40), (47, m47), (48, m48), (49, m49), (50, m50), (51, m51), (56, m56), (57, m57), (58, m58), (59, m59)]
theorem tbl_ok : Tbl Try.prog tbl := .cons m10_ok (.cons m11_ok (.cons m14_ok (.cons m15_ok (.cons m17_ok (.cons m19_ok (.cons m20_ok (.cons m26_ok (.cons m27_ok (.cons m28_ok (.cons m29_ok (.cons m30_ok (.cons m31_ok (.cons m33_ok (.cons m34_ok (.cons m35_ok (.cons m37_ok (.cons m38_ok (.cons m39_ok (.cons m40_ok (.cons m47_ok (.cons m48_ok (.cons m49_ok (.cons m50_ok (.cons m51_ok (.cons m56_ok (.cons m57_ok (.cons m58_ok (.cons m59_ok (.nil)))))))))))))))))))))))))))))

theorem known_eval : isTrue (evFn (look tbl) 100000 100 10 [] []) = true := by kernel_rfl
end Go.Ab.Try
