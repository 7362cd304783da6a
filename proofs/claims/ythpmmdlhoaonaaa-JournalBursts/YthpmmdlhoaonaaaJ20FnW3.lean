/-
  The translated functions of this claim, printed by a program of ours (gen.sh), with the kernel's word that they are the translation.
  Conditions: none.
-/
import Derived.Test.YthpmmdlhoaonaaaProg
import Derived.Test.YthpmmdlhoaonaaaAbEval
import Derived.KernelRfl
namespace Go.Ab.Try.W
open Go.Proofs
/- dialtone/dialtonelaw20.JournalBits -/
def m5r0 : List MOper := [⟨.mv (.lit (.bool false)), none, (some 4), []⟩]
def m5r1 : List MOper := [⟨.mv (.tmp 0), none, (some 15), [0]⟩,
  ⟨.call 16 [(.tmp 15)], none, (some 16), [15]⟩,
  ⟨.mv (.tmp 16), none, (some 0), [16]⟩]
def m5r2 : List MOper := [⟨.mv (.tmp 0), none, (some 18), [0]⟩,
  ⟨.call 17 [(.tmp 18)], none, (some 19), [18]⟩,
  ⟨.mv (.tmp 19), none, (some 17), [19]⟩,
  ⟨.ext 0 (.tmp 17), none, (some 20), [17]⟩,
  ⟨.ext 1 (.tmp 17), none, (some 21), [17]⟩,
  ⟨.ext 2 (.tmp 17), none, (some 22), [17]⟩,
  ⟨.zbox [.nils, (.int .i64 0), (.int .i64 0)], none, (some 5), []⟩,
  ⟨.store 3 (.tmp 5) (.tmp 20), none, none, [5, 20]⟩,
  ⟨.mv (.tmp 21), none, (some 6), [21]⟩,
  ⟨.mv (.tmp 22), none, (some 7), [22]⟩]
def m5r3 : List MOper := [⟨.mv (.tmp 7), none, (some 23), [7]⟩,
  ⟨.un .not (.tmp 23), none, (some 24), [23]⟩]
def m5r4 : List MOper := [⟨.mv (.lit (.bool false)), none, (some 4), []⟩]
def m5r5 : List MOper := [⟨.mv (.tmp 0), none, (some 25), [0]⟩,
  ⟨.len 1 (.tmp 25), none, (some 26), [25]⟩,
  ⟨.bin .eql .other (.tmp 26) (.lit (.int .i64 0)), none, (some 27), [26]⟩]
def m5r6 : List MOper := [⟨.call 11 [], none, (some 28), []⟩,
  ⟨.mv (.tmp 28), none, (some 4), [28]⟩]
def m5r7 : List MOper := [⟨.mv (.tmp 1), none, (some 29), [1]⟩,
  ⟨.conv .i64 (.tmp 29), none, (some 30), [29]⟩,
  ⟨.faddr 0 (.tmp 5), none, (some 31), [5]⟩,
  ⟨.load none (.tmp 31), none, (some 32), [31]⟩,
  ⟨.len 1 (.tmp 32), none, (some 33), [32]⟩,
  ⟨.bin .mul .other (.lit (.int .i64 8)) (.tmp 33), none, (some 34), [33]⟩,
  ⟨.bin .rem .other (.tmp 30) (.tmp 34), none, (some 35), [30, 34]⟩,
  ⟨.mv (.tmp 35), none, (some 8), [35]⟩]
def m5r8 : List MOper := [⟨.mv (.lit .nils), none, (some 9), []⟩]
def m5r9 : List MOper := [⟨.mv (.tmp 9), none, (some 36), [9]⟩,
  ⟨.faddr 0 (.tmp 5), none, (some 37), [5]⟩,
  ⟨.load none (.tmp 37), none, (some 38), [37]⟩,
  ⟨.append 1 1 (.tmp 36) (.tmp 38), none, (some 39), [36, 38]⟩,
  ⟨.mv (.tmp 39), none, (some 9), [39]⟩]
def m5r10 : List MOper := [⟨.mv (.tmp 9), none, (some 40), [9]⟩,
  ⟨.mv (.tmp 8), none, (some 41), [8]⟩,
  ⟨.bin .quo .other (.tmp 41) (.lit (.int .i64 8)), none, (some 42), [41]⟩,
  ⟨.mv (.tmp 9), none, (some 43), [9]⟩,
  ⟨.mv (.tmp 8), none, (some 44), [8]⟩,
  ⟨.bin .quo .other (.tmp 44) (.lit (.int .i64 8)), none, (some 45), [44]⟩,
  ⟨.iaddr 1 (.tmp 43) (.tmp 45), none, (some 46), [43, 45]⟩,
  ⟨.load none (.tmp 46), none, (some 47), [46]⟩,
  ⟨.mv (.tmp 8), none, (some 48), [8]⟩,
  ⟨.bin .rem .other (.tmp 48) (.lit (.int .i64 8)), none, (some 49), [48]⟩,
  ⟨.bin .shl .other (.lit (.int .u8 1)) (.tmp 49), none, (some 50), [49]⟩]
def m5r11 : List MOper := [⟨.bin .xor .other (.tmp 47) (.tmp 50), none, (some 51), [47, 50]⟩,
  ⟨.iaddr 1 (.tmp 40) (.tmp 42), none, (some 52), [40, 42]⟩,
  ⟨.store 1 (.tmp 52) (.tmp 51), none, none, [52, 51]⟩]
def m5r12 : List MOper := [⟨.mv (.lit (.int .i64 0)), none, (some 10), []⟩]
def m5r13 : List MOper := [⟨.mv (.tmp 6), none, (some 53), [6]⟩,
  ⟨.mv (.tmp 10), none, (some 54), [10]⟩,
  ⟨.iaddr 1 (.tmp 53) (.tmp 54), none, (some 55), [53, 54]⟩,
  ⟨.load none (.tmp 55), none, (some 56), [55]⟩,
  ⟨.mv (.tmp 8), none, (some 57), [8]⟩,
  ⟨.bin .quo .other (.tmp 57) (.lit (.int .i64 8)), none, (some 58), [57]⟩,
  ⟨.bin .leq .other (.tmp 56) (.tmp 58), none, (some 59), [56, 58]⟩]
def m5r14 : List MOper := [⟨.mv (.tmp 10), none, (some 60), [10]⟩,
  ⟨.bin .add .other (.tmp 60) (.lit (.int .i64 1)), none, (some 61), [60]⟩,
  ⟨.mv (.tmp 61), none, (some 10), [61]⟩]
def m5l15 : MCode := (.seq (.seq (.region m5r13 [0, 6, 8, 9, 10, 59])
  (.cond (.tmp 59)
  .skip
  (.exit 0)))
  (.block 1 (.region m5r14 [0, 6, 8, 9, 10])))
def m5r16 : List MOper := [⟨.mv (.tmp 9), none, (some 63), [9]⟩,
  ⟨.call 18 [(.tmp 63)], none, (some 64), [63]⟩,
  ⟨.mv (.tmp 64), none, (some 62), [64]⟩,
  ⟨.ext 0 (.tmp 62), none, (some 65), [62]⟩,
  ⟨.ext 1 (.tmp 62), none, (some 66), [62]⟩,
  ⟨.ext 2 (.tmp 62), none, (some 67), [62]⟩,
  ⟨.mv (.tmp 65), none, (some 11), [65]⟩,
  ⟨.mv (.tmp 66), none, (some 12), [66]⟩,
  ⟨.mv (.tmp 67), none, (some 13), [67]⟩]
def m5r17 : List MOper := [⟨.mv (.lit (.int .i64 0)), none, (some 14), []⟩]
def m5r18 : List MOper := [⟨.mv (.tmp 10), none, (some 68), [10]⟩,
  ⟨.bin .gtr .other (.tmp 68) (.lit (.int .i64 0)), none, (some 69), [68]⟩]
def m5r19 : List MOper := [⟨.mv (.tmp 6), none, (some 70), [6]⟩,
  ⟨.mv (.tmp 10), none, (some 71), [10]⟩,
  ⟨.bin .sub .other (.tmp 71) (.lit (.int .i64 1)), none, (some 72), [71]⟩,
  ⟨.iaddr 1 (.tmp 70) (.tmp 72), none, (some 73), [70, 72]⟩,
  ⟨.load none (.tmp 73), none, (some 74), [73]⟩,
  ⟨.mv (.tmp 74), none, (some 14), [74]⟩]
def m5r20 : List MOper := [⟨.mv (.tmp 12), none, (some 75), [12]⟩,
  ⟨.mv (.tmp 14), none, (some 76), [14]⟩,
  ⟨.bin .eql .other (.tmp 75) (.tmp 76), none, (some 77), [75, 76]⟩,
  ⟨.mv (.tmp 77), none, (some 78), [77]⟩,
  ⟨.mv (.tmp 0), (some (78, true)), (some 79), [0]⟩,
  ⟨.mv (.tmp 10), (some (78, true)), (some 80), [10]⟩,
  ⟨.slc 2 (.tmp 79) none (some (.tmp 80)) none, (some (78, true)), (some 81), [79, 80]⟩,
  ⟨.mv (.tmp 11), (some (78, true)), (some 82), [11]⟩,
  ⟨.call 19 [(.tmp 81), (.tmp 82)], (some (78, true)), (some 83), [81, 82]⟩,
  ⟨.pick (.tmp 78) (.tmp 83) (.lit (.bool false)), none, (some 84), [78, 83]⟩,
  ⟨.mv (.tmp 84), none, (some 85), [84]⟩,
  ⟨.mv (.tmp 13), (some (85, true)), (some 86), [13]⟩,
  ⟨.bin .eql .other (.tmp 86) (.lit (.int .u8 5)), (some (85, true)), (some 87), [86]⟩,
  ⟨.mv (.tmp 87), (some (85, true)), (some 88), [87]⟩,
  ⟨.mv (.tmp 13), (some (88, false)), (some 89), [13]⟩,
  ⟨.bin .eql .other (.tmp 89) (.lit (.int .u8 11)), (some (88, false)), (some 90), [89]⟩,
  ⟨.pick (.tmp 88) (.lit (.bool true)) (.tmp 90), (some (85, true)), (some 91), [88, 90]⟩,
  ⟨.pick (.tmp 85) (.tmp 91) (.lit (.bool false)), none, (some 92), [85, 91]⟩,
  ⟨.mv (.tmp 92), none, (some 93), [92]⟩,
  ⟨.call 11 [], (some (93, true)), (some 94), []⟩,
  ⟨.pick (.tmp 93) (.tmp 94) (.lit (.bool false)), none, (some 95), [93, 94]⟩,
  ⟨.mv (.tmp 95), none, (some 4), [95]⟩]
def m5 : MFunc := ⟨96, [.tmp 4],
  (.seq (.region m5r0 [0, 1])
  (.seq (.region m5r1 [0, 1])
  (.seq (.region m5r2 [0, 1, 5, 6, 7])
  (.seq (.seq (.region m5r3 [0, 1, 5, 6, 24])
  (.cond (.tmp 24)
  (.seq (.region m5r4 [4])
  .ret)
  .skip))
  (.seq (.seq (.region m5r5 [0, 1, 5, 6, 27])
  (.cond (.tmp 27)
  (.seq (.region m5r6 [4])
  .ret)
  .skip))
  (.seq (.region m5r7 [0, 5, 6, 8])
  (.seq (.region m5r8 [0, 5, 6, 8, 9])
  (.seq (.region m5r9 [0, 6, 8, 9])
  (.seq (.dregion m5r10 m5r11 [] [0, 6, 8, 9])
  (.seq (.seq .conv
  (.region m5r12 [0, 6, 8, 9, 10]))
  (.seq (.block 0 (.loop [0, 6, 8, 9, 10] m5l15))
  (.seq (.region m5r16 [0, 6, 10, 11, 12, 13])
  (.seq (.region m5r17 [0, 6, 10, 11, 12, 13, 14])
  (.seq (.seq (.region m5r18 [0, 6, 10, 11, 12, 13, 14, 69])
  (.cond (.tmp 69)
  (.region m5r19 [0, 10, 11, 12, 13, 14])
  .skip))
  (.seq (.region m5r20 [4])
  .ret)))))))))))))))⟩
def h5 : List RH := [⟨[0, 1], 0, false, []⟩, ⟨[0, 1], 0, false, []⟩, ⟨[0, 1, 5, 6, 7], 0, false, []⟩, ⟨[0, 1, 5, 6, 24], 0, false, []⟩, ⟨[4], 0, false, []⟩, ⟨[0, 1, 5, 6, 27], 0, false, []⟩, ⟨[4], 0, false, []⟩, ⟨[0, 5, 6, 8], 0, false, []⟩, ⟨[0, 5, 6, 8, 9], 0, false, []⟩, ⟨[0, 6, 8, 9], 0, false, []⟩, ⟨[0, 6, 8, 9], 11, false, []⟩, ⟨[0, 6, 8, 9, 10], 0, true, []⟩, ⟨[0, 6, 8, 9, 10], 0, false, []⟩, ⟨[0, 6, 8, 9, 10, 59], 0, false, []⟩, ⟨[0, 6, 8, 9, 10], 0, false, []⟩, ⟨[0, 6, 10, 11, 12, 13], 0, false, []⟩, ⟨[0, 6, 10, 11, 12, 13, 14], 0, false, []⟩, ⟨[0, 6, 10, 11, 12, 13, 14, 69], 0, false, []⟩, ⟨[0, 10, 11, 12, 13, 14], 0, false, []⟩, ⟨[4], 0, false, []⟩]
theorem m5_ok : cmpFn Try.prog 5 h5 = some m5 := by kernel_rfl

end Go.Ab.Try.W
