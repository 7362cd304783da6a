/-
  The translated functions of this claim, printed by a program of ours (gen.sh), with the kernel's word that they are the translation.
  Conditions: none.
-/
import Derived.Test.YtomcdnibcdojcaaJ33Fn
import Derived.Test.YtomcdnibcdojcaaAbEval
import Derived.KernelRfl
namespace Go.Ab.Try.S
open Go.Proofs
/- dialtone/dialtonelaw33.live -/
def m10r0 : List MOper := [⟨.mv (.lit (.bool false)), none, (some 0), []⟩]
def m10r1 : List MOper := [⟨.mkfrz [(.int .u8 0)] 4 [(0, (.lit (.int .u8 1))), (1, (.lit (.int .u8 2))), (2, (.lit (.int .u8 3))), (3, (.lit (.int .u8 8)))], none, (some 5), []⟩,
  ⟨.call 11 [(.tmp 5)], none, (some 6), [5]⟩,
  ⟨.call 7 [(.tmp 6)], none, (some 7), [6]⟩,
  ⟨.mv (.tmp 7), none, (some 4), [7]⟩,
  ⟨.ext 0 (.tmp 4), none, (some 8), [4]⟩,
  ⟨.ext 1 (.tmp 4), none, (some 9), [4]⟩,
  ⟨.mv (.tmp 8), none, (some 1), [8]⟩,
  ⟨.mv (.tmp 9), none, (some 2), [9]⟩]
def m10r2 : List MOper := [⟨.build [(.str []), (.int .u8 0), (.bool false), (.bool false), (.int .i64 0), (.int .i64 0), (.int .i64 0), (.int .i64 0), (.int .i64 0), (.int .i64 0)] [(0, 1, (.lit (.str [65]))), (1, 1, (.lit (.int .u8 8))), (5, 1, (.lit (.int .i64 1))), (6, 1, (.lit (.int .i64 4))), (7, 1, (.lit (.int .i64 3))), (8, 1, (.lit (.int .i64 4)))], none, (some 10), []⟩,
  ⟨.zbox [(.str []), (.int .u8 0), (.bool false), (.bool false), (.int .i64 0), (.int .i64 0), (.int .i64 0), (.int .i64 0), (.int .i64 0), (.int .i64 0)], none, (some 3), []⟩,
  ⟨.store 10 (.tmp 3) (.tmp 10), none, none, [3, 10]⟩]
def m10r3 : List MOper := [⟨.mv (.tmp 2), none, (some 11), [2]⟩,
  ⟨.len 1 (.tmp 11), none, (some 12), [11]⟩,
  ⟨.bin .eql .other (.tmp 12) (.lit (.int .i64 0)), none, (some 13), [12]⟩,
  ⟨.mv (.tmp 13), none, (some 14), [13]⟩,
  ⟨.mv (.tmp 1), (some (14, true)), (some 15), [1]⟩,
  ⟨.load (some 10) (.tmp 3), (some (14, true)), (some 16), [3]⟩,
  ⟨.mkfrz [(.str []), (.int .u8 0), (.bool false), (.bool false), (.int .i64 0), (.int .i64 0), (.int .i64 0), (.int .i64 0), (.int .i64 0), (.int .i64 0)] 1 [(0, (.tmp 16))], (some (14, true)), (some 17), [16]⟩,
  ⟨.call 12 [(.tmp 15), (.tmp 17)], (some (14, true)), (some 18), [15, 17]⟩,
  ⟨.pick (.tmp 14) (.tmp 18) (.lit (.bool false)), none, (some 19), [14, 18]⟩,
  ⟨.mv (.tmp 19), none, (some 20), [19]⟩,
  ⟨.load (some 10) (.tmp 3), (some (20, true)), (some 21), [3]⟩,
  ⟨.call 8 [(.tmp 21), (.lit (.int .i64 9))], (some (20, true)), (some 22), [21]⟩,
  ⟨.bin .eql .other (.tmp 22) (.lit (.int .i64 1)), (some (20, true)), (some 23), [22]⟩,
  ⟨.pick (.tmp 20) (.tmp 23) (.lit (.bool false)), none, (some 24), [20, 23]⟩,
  ⟨.mv (.tmp 24), none, (some 0), [24]⟩]
def m10 : MFunc := ⟨25, [.tmp 0],
  (.seq (.region m10r0 [])
  (.seq (.region m10r1 [1, 2])
  (.seq (.region m10r2 [1, 2, 3])
  (.seq (.region m10r3 [0])
  .ret))))⟩
def h10 : List RH := [⟨[], 0, false, []⟩, ⟨[1, 2], 0, false, []⟩, ⟨[1, 2, 3], 0, false, []⟩, ⟨[0], 0, false, []⟩]
theorem m10_ok : cmpFn Try.prog 10 h10 = some m10 := by kernel_rfl

end Go.Ab.Try.S
