/- The law of known examples, worked out by the evaluator. Conditions: none. -/
import Derived.Test.YthpmmdlhoaonaaaJ20FnA
import Derived.Test.YthpmmdlhoaonaaaAbLaw
namespace Go.Ab.Try
open Go.Proofs

theorem mixed : Try.prog.follows .mixedOrders = true := by kernel_rfl
def tbl : List (Nat × MFunc) := [(8, m8), (11, m11), (12, m12), (14, m14), (18, m18), (19, m19), (21, m21), (24, m24), (25, m25), (27, m27), (29, m29), (32, m32), (34, m34), (37, m37)]
theorem tbl_ok : Tbl Try.prog tbl :=
  .cons m8_ok (.cons m11_ok (.cons m12_ok (.cons m14_ok (.cons m18_ok (.cons m19_ok (.cons m21_ok (.cons m24_ok (.cons m25_ok (.cons m27_ok (.cons m29_ok (.cons m32_ok (.cons m34_ok (.cons m37_ok .nil)))))))))))))

theorem known_eval : isTrue (evFn (look tbl) 5000 50 8 [] []) = true := by kernel_rfl
end Go.Ab.Try
