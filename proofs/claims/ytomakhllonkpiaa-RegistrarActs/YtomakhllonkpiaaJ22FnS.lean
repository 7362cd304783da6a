/-
  The translated functions of this claim, printed by a program of ours (gen.sh), with the kernel's word that they are the translation.
  Conditions: none.
-/
import Derived.Test.YtomakhllonkpiaaProg
import Derived.Test.YtomakhllonkpiaaAbEval
import Derived.KernelRfl
namespace Go.Ab.Try.S
open Go.Proofs
/- dialtone/journal.Check -/
def m68r0 : List MOper := [⟨.mv (.lit (.int .u32 0)), none, (some 2), []⟩]
def m68r1 : List MOper := [⟨.mv (.lit (.int .u32 4294967295)), none, (some 3), []⟩]
def m68r2 : List MOper := [⟨.mv (.tmp 0), none, (some 7), [0]⟩,
  ⟨.len 1 (.tmp 7), none, (some 8), [7]⟩,
  ⟨.mv (.lit (.int .i64 0)), none, (some 9), []⟩]
def m68r3 : List MOper := [⟨.bin .lss .other (.tmp 9) (.tmp 8), none, (some 10), [9, 8]⟩]
def m68r4 : List MOper := [⟨.iaddr 1 (.tmp 7) (.tmp 9), none, (some 11), [7, 9]⟩,
  ⟨.load none (.tmp 11), none, (some 12), [11]⟩,
  ⟨.mv (.tmp 12), none, (some 5), [12]⟩]
def m68r5 : List MOper := [⟨.mv (.tmp 3), none, (some 13), [3]⟩,
  ⟨.mv (.tmp 5), none, (some 14), [5]⟩,
  ⟨.conv .u32 (.tmp 14), none, (some 15), [14]⟩,
  ⟨.bin .xor .other (.tmp 13) (.tmp 15), none, (some 16), [13, 15]⟩,
  ⟨.mv (.tmp 16), none, (some 3), [16]⟩]
def m68r6 : List MOper := [⟨.mv (.lit (.int .i64 0)), none, (some 17), []⟩]
def m68r7 : List MOper := [⟨.bin .lss .other (.tmp 17) (.lit (.int .i64 8)), none, (some 18), [17]⟩]
def m68r8 : List MOper := [⟨.mv (.tmp 3), none, (some 19), [3]⟩,
  ⟨.bin .and .other (.tmp 19) (.lit (.int .u32 1)), none, (some 20), [19]⟩,
  ⟨.mv (.tmp 20), none, (some 6), [20]⟩]
def m68r9 : List MOper := [⟨.mv (.tmp 3), none, (some 21), [3]⟩,
  ⟨.bin .shr .other (.tmp 21) (.lit (.int .u64 1)), none, (some 22), [21]⟩,
  ⟨.mv (.tmp 22), none, (some 3), [22]⟩]
def m68r10 : List MOper := [⟨.mv (.tmp 6), none, (some 23), [6]⟩,
  ⟨.bin .eql .other (.tmp 23) (.lit (.int .u32 1)), none, (some 24), [23]⟩]
def m68r11 : List MOper := [⟨.mv (.tmp 3), none, (some 25), [3]⟩,
  ⟨.bin .xor .other (.tmp 25) (.lit (.int .u32 3988292384)), none, (some 26), [25]⟩,
  ⟨.mv (.tmp 26), none, (some 3), [26]⟩]
def m68r12 : List MOper := [⟨.bin .add .other (.tmp 17) (.lit (.int .i64 1)), none, (some 27), [17]⟩,
  ⟨.mv (.tmp 27), none, (some 17), [27]⟩]
def m68l13 : MCode := (.seq (.region m68r7 [3, 7, 8, 9, 17, 18])
  (.seq (.cond (.tmp 18)
  .skip
  (.exit 2))
  (.seq (.block 3 (.seq (.region m68r8 [3, 6, 7, 8, 9, 17])
  (.seq (.region m68r9 [3, 6, 7, 8, 9, 17])
  (.seq (.region m68r10 [3, 7, 8, 9, 17, 24])
  (.cond (.tmp 24)
  (.region m68r11 [3, 7, 8, 9, 17])
  .skip)))))
  (.region m68r12 [3, 7, 8, 9, 17]))))
def m68r14 : List MOper := [⟨.bin .add .other (.tmp 9) (.lit (.int .i64 1)), none, (some 28), [9]⟩,
  ⟨.mv (.tmp 28), none, (some 9), [28]⟩]
def m68l15 : MCode := (.seq (.region m68r3 [3, 7, 8, 9, 10])
  (.seq (.cond (.tmp 10)
  .skip
  (.exit 0))
  (.seq (.block 1 (.seq (.region m68r4 [3, 5, 7, 8, 9])
  (.seq (.region m68r5 [3, 7, 8, 9])
  (.seq (.region m68r6 [3, 7, 8, 9, 17])
  (.block 2 (.loop [3, 7, 8, 9, 17] m68l13))))))
  (.region m68r14 [3, 7, 8, 9]))))
def m68r16 : List MOper := [⟨.mv (.tmp 3), none, (some 29), [3]⟩,
  ⟨.un .xor (.tmp 29), none, (some 30), [29]⟩,
  ⟨.mv (.tmp 30), none, (some 2), [30]⟩]
def m68 : MFunc := ⟨31, [.tmp 2],
  (.seq (.region m68r0 [0])
  (.seq (.region m68r1 [0, 3])
  (.seq (.seq (.region m68r2 [3, 7, 8, 9])
  (.block 0 (.loop [3, 7, 8, 9] m68l15)))
  (.seq (.region m68r16 [2])
  .ret))))⟩
def h68 : List RH := [⟨[0], 0, false, []⟩, ⟨[0, 3], 0, false, []⟩, ⟨[3, 7, 8, 9], 0, false, []⟩, ⟨[3, 7, 8, 9], 0, false, []⟩, ⟨[3, 7, 8, 9, 10], 0, false, []⟩, ⟨[3, 5, 7, 8, 9], 0, false, []⟩, ⟨[3, 7, 8, 9], 0, false, []⟩, ⟨[3, 7, 8, 9, 17], 0, false, []⟩, ⟨[3, 7, 8, 9, 17], 0, false, []⟩, ⟨[3, 7, 8, 9, 17, 18], 0, false, []⟩, ⟨[3, 6, 7, 8, 9, 17], 0, false, []⟩, ⟨[3, 6, 7, 8, 9, 17], 0, false, []⟩, ⟨[3, 7, 8, 9, 17, 24], 0, false, []⟩, ⟨[3, 7, 8, 9, 17], 0, false, []⟩, ⟨[3, 7, 8, 9, 17], 0, false, []⟩, ⟨[3, 7, 8, 9], 0, false, []⟩, ⟨[2], 0, false, []⟩]
theorem m68_ok : cmpFn Try.prog 68 h68 = some m68 := by kernel_rfl

end Go.Ab.Try.S
